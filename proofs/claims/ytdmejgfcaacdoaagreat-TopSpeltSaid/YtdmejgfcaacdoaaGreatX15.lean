/- Lemmas for the statements of this seat (X15): they hold without conditions beyond those that each one states. -/
import Derived.Test.YtdmejgfcaacdoaaGreatX13
import Derived.Laws.RangeString
/- Contracts: names. -/
namespace Go.Proofs.YtdmejgfcaacdoaaGreat.Abs
set_option linter.unusedSimpArgs false
set_option maxHeartbeats 4000000
set_option maxRecDepth 100000
open Go Go.RowKit Go.Proofs
theorem forget_fin {m : Mem} {b : Nat} {y : Option Box} {R : Prop} (h : m b = none) (hR : R) : ∃ m'' : Mem,(∀ b' x,m'' b' = some x → (if b' = b then y else m b') = some x) ∧ R ∧ m'' = m :=
 ⟨m,fun b' x hx => by
  have : b' ≠ b := by rintro rfl; rw [h] at hx; cases hx
  rw [if_neg this]; exact hx,hR,rfl⟩
theorem upd_upd {α : Type} (f : Nat → α) (i : Nat) (x y : α) : upd (upd f i x) i y = upd f i y := by
 funext k
 by_cases e : k = i
 ·subst e; rw [upd_same,upd_same]
 ·rw [upd_ne _ _ e,upd_ne _ _ e,upd_ne _ _ e]
def nameAt (i b : Nat) : Bool := decide ((97 ≤ b ∧ b ≤ 122) ∨ (0 < i ∧ (b = 46 ∨ (48 ≤ b ∧ b ≤ 57))))
def byteAt (s : ByteArray) (i : Nat) : Nat := (s.data.toList.getD i 0).toNat
theorem byte_fold (s : ByteArray) (k : Nat) : (s.data.toList.getD k 0).toNat = byteAt s k := rfl
theorem byteAt_lt (s : ByteArray) (k : Nat) : byteAt s k < 256 := UInt8.toNat_lt _
theorem range_all_succ (n : Nat) (p : Nat → Bool) : (List.range (n + 1)).all p = ((List.range n).all p && p n) := by
 rw [List.range_succ,List.all_append]; simp
def nameB (s : ByteArray) : Bool := decide (1 ≤ s.size ∧ s.size ≤ 16) && (List.range s.size).all fun i => nameAt i (byteAt s i)
theorem nameB_all {s : ByteArray} (h : ∀ i < s.size,nameAt i (byteAt s i) = true) : nameB s = decide (1 ≤ s.size ∧ s.size ≤ 16) := by
 have : (List.range s.size).all (fun i => nameAt i (byteAt s i)) = true := by
  rw [List.all_eq_true]; intro i hi; exact h i (List.mem_range.1 hi)
 simp [nameB,this]
theorem nameB_not {s : ByteArray} {i : Nat} (hi : i < s.size) (h : nameAt i (byteAt s i) = false) : nameB s = false := by
 have : (List.range s.size).all (fun i => nameAt i (byteAt s i)) = false := by
  rw [Bool.eq_false_iff]; intro h'
  rw [List.all_eq_true] at h'
  have := h' i (List.mem_range.2 hi)
  rw [h] at this; cases this
 simp [nameB,this]
theorem refname_c (s : ByteArray) (hs : s.size ≤ 9223372036854775807) : PCall Tryz.prog 91 [.str s] (.bool (nameB s)) := by
 intro m
 (refine acall_intro (E := envC (fun _ => .imm) false [5,6]) (envCOk _ _ _) rfl Tryz.func91 rfl Tryz.call91 (by kernel_rfl) (by simp [Tryz.ntmps91]) ?_; simp only [Tryz.f91];  simp(maxSteps:=9^9)only[↓VP,VQ,seval])
 (refine ACall.pure (in_c _ _ _) ?_; try simp(maxSteps:=9^9)only[↓VP,VQ,seval])
 refine aloop (envCOk _ _ _) (fun k : Nat => ⟨[(0,.v (.str s)),(3,.v (.bool (decide (1 ≤ (s.size : Int) ∧ (s.size : Int) ≤ 16) && (List.range k).all fun i => nameAt i (byteAt s i)))),(4,.v (.int .i64 k))],[],[],m⟩)
  (fun k => k ≤ s.size) (fun k => s.size - k) 0 (fun _ => rfl) (by simp) (by (simp only [FE,↓FP,seval]); try simp) ?_
 intro k hk
 have hb := byteAt_lt s k
 simp(maxSteps:=9^9)only[↓VP,VQ,seval]
 repeat'(first|intro _|apply And.intro)
 all_goals try first|omega|(simp only[LL];omega)|exact nlC (by decide) _|exact nbC rfl
 ·refine acut (envCOk _ _ _) (fun _ : Unit => ⟨[(0,.v (.str s)),(3,.v (.bool (decide (1 ≤ (s.size : Int) ∧ (s.size : Int) ≤ 16) && (List.range k).all fun i => nameAt i (byteAt s i)))),(4,.v (.int .i64 k)),
   (5,.v (.bool (decide (0 < k ∧ (byteAt s k = 46 ∨ (48 ≤ byteAt s k ∧ byteAt s k ≤ 57))))))],[],[],m⟩) (fun _ => True) (fun _ => rfl) ?_ ?_
  ·simp(maxSteps:=9^9)only[↓VP,VQ,seval,byte_fold]
   repeat'(first|intro _|apply And.intro)
   all_goals try first|omega|(simp only[LL];omega)|exact nlC (by decide) _|exact nbC rfl
   all_goals try ((refine ACall.pure (in_c _ _ _) ?_; try simp(maxSteps:=9^9)only[↓VP,VQ,seval]))
   all_goals repeat'(first|intro _|apply And.intro)
   all_goals (refine ⟨(),?_⟩; (simp only [FE,↓FP,seval]))
   all_goals (congr 2; rw [Bool.eq_iff_iff]; simp only [decide_eq_true_eq,Bool.and_eq_true,Bool.or_eq_true,Bool.not_eq_true',decide_eq_false_iff_not,true_iff,false_iff,iff_true,iff_false,Bool.true_eq_false,Bool.false_eq_true,and_false,false_and,and_true,true_and]; omega)
  ·intro _ _
   simp(maxSteps:=9^9)only[↓VP,VQ,seval]
   refine acut (envCOk _ _ _) (fun _ : Unit => ⟨[(0,.v (.str s)),(3,.v (.bool (decide (1 ≤ (s.size : Int) ∧ (s.size : Int) ≤ 16) && (List.range (k + 1)).all fun i => nameAt i (byteAt s i)))),(4,.v (.int .i64 k))],[],[],m⟩) (fun _ => True) (fun _ => rfl) ?_ ?_
   ·simp(maxSteps:=9^9)only[↓VP,VQ,seval,byte_fold]
    repeat'(first|intro _|apply And.intro)
    all_goals try first|omega|(simp only[LL];omega)|exact nlC (by decide) _|exact nbC rfl
    all_goals try ((refine ACall.pure (in_c _ _ _) ?_; try simp(maxSteps:=9^9)only[↓VP,VQ,seval]))
    all_goals repeat'(first|intro _|apply And.intro)
    all_goals (refine ⟨(),?_⟩; (simp only [FE,↓FP,seval]); rw [range_all_succ,← Bool.and_assoc])
    ·have h3 : (decide (1 ≤ (s.size : Int) ∧ (s.size : Int) ≤ 16) && (List.range k).all fun i => nameAt i (byteAt s i)) = true := by assumption
     rw [h3,Bool.true_and,nameAt]; congr 2; rw [decide_eq_decide]; omega
    ·have h3 : (decide (1 ≤ (s.size : Int) ∧ (s.size : Int) ≤ 16) && (List.range k).all fun i => nameAt i (byteAt s i)) = true := by assumption
     rw [h3,Bool.true_and,nameAt]; congr 2; exact (decide_eq_true (by omega)).symm
    ·rename_i h3
     rw [Bool.eq_false_iff.2 h3]; simp
   ·intro _ _
    simp(maxSteps:=9^9)only[↓VP,VQ,seval]
    repeat'(first|intro _|apply And.intro)
    all_goals try first|omega|(simp only[LL];omega)|exact nlC (by decide) _|exact nbC rfl
    refine ⟨k + 1,by dsimp only; omega,by dsimp only; omega,?_⟩
    (simp only [FE,↓FP,seval])
    simp
 ·have : nameB s = (decide (1 ≤ (s.size : Int) ∧ (s.size : Int) ≤ 16) && (List.range k).all fun i => nameAt i (byteAt s i)) := by
   have e : k = s.size := by omega
   have h1 : decide (1 ≤ s.size ∧ s.size ≤ 16) = decide (1 ≤ (s.size : Int) ∧ (s.size : Int) ≤ 16) := by rw [decide_eq_decide]; omega
   rw [e,nameB,h1]
  rw [this]
theorem byteAt_get (s : ByteArray) {k : Nat} (h : k < s.size) : byteAt s k = (s[k]'h).toNat := by
 have h' : k < s.data.toList.length := by simpa using h
 unfold byteAt
 rw [List.getD_eq_getElem?_getD,List.getElem?_eq_getElem h']
 rfl
theorem decode_low {s : ByteArray} {k : Nat} (h : k < s.size) (ha : byteAt s k < 128) : Utf8.decode s k = (byteAt s k,1) := by
 rw [byteAt_get s h] at ha ⊢; exact decode_ascii s k h ha
theorem decode_hi {s : ByteArray} {k : Nat} (h : k < s.size) (ha : 128 ≤ byteAt s k) : 128 ≤ (Utf8.decode s k).1 ∧ 1 ≤ (Utf8.decode s k).2 := by
 rw [byteAt_get s h] at ha; exact decode_high s k h ha
theorem name_key {s : ByteArray} {k : Nat} (h : k < s.size) : (nameAt k (Utf8.decode s k).1 = true → Utf8.decode s k = (byteAt s k,1) ∧ nameAt k (byteAt s k) = true) ∧
  (nameAt k (Utf8.decode s k).1 = false → nameAt k (byteAt s k) = false) := by
 by_cases hb : byteAt s k < 128
 ·rw [decode_low h hb]; exact ⟨fun h' => ⟨rfl,h'⟩,fun h' => h'⟩
 ·have h1 := (decode_hi h (by omega)).1
  have h2 : nameAt k (Utf8.decode s k).1 = false := decide_eq_false (by omega)
  have h3 : nameAt k (byteAt s k) = false := decide_eq_false (by omega)
  rw [h2]; exact ⟨fun h => (by cases h),fun _ => h3⟩
theorem name_c (s : ByteArray) (hs : s.size ≤ 9223372036854775807) : PCall Tryz.prog 80 [.str s] (.bool (nameB s)) := by
 intro m
 refine ACall.forget ?_
 (refine acall_intro (E := envC (fun _ => .imm) false [4]) (envCOk _ _ _) rfl Tryz.func80 rfl Tryz.call80 (by kernel_rfl) (by simp [Tryz.ntmps80]) ?_; simp only [Tryz.f80];  simp(maxSteps:=9^9)only[↓VP,VQ,seval])
 intro b hmb
 refine aloop (envCOk _ _ _) (fun k : Nat => ⟨[(0,.v (.str s)),(7,.v (.ptr b 0))],[],[],upd m b (some (.iter s k))⟩)
  (fun k => k ≤ s.size ∧ ∀ i < k,nameAt i (byteAt s i) = true) (fun k => s.size - k) 0 (fun _ => rfl) (by simp) (by (simp only [FE,↓FP,seval]); try simp) ?_
 rintro k ⟨hk,hp⟩
 simp(maxSteps:=9^9)only[↓VP,VQ,seval]
 repeat'(first|intro _|apply And.intro)
 all_goals try first|omega|(simp only[LL];omega)|exact nlC (by decide) _|exact nbC rfl
 ·rename_i hlt
  obtain ⟨k1,k2⟩ := name_key hlt
  refine acut (envCOk _ _ _) (fun _ : Unit => ⟨[(0,.v (.str s)),(3,.v (.int .i64 k)),(4,.v (.int .i32 (Utf8.decode s k).1)),(5,.v (.bool (decide (97 ≤ (Utf8.decode s k).1 ∧ (Utf8.decode s k).1 ≤ 122)))),(7,.v (.ptr b 0))],[],[],
   upd m b (some (.iter s (k + (Utf8.decode s k).2)))⟩) (fun _ => True) (fun _ => rfl) ?_ ?_
  ·simp(maxSteps:=9^9)only[↓VP,VQ,seval]
   repeat'(first|intro _|apply And.intro)
   all_goals try first|omega|(simp only[LL];omega)|exact nlC (by decide) _|exact nbC rfl
   all_goals (refine ⟨(),?_⟩; (simp only [FE,↓FP,seval]); refine ⟨?_,upd_upd _ _ _ _⟩)
   all_goals (congr 2; rw [Bool.eq_iff_iff]; simp only [decide_eq_true_eq,Bool.and_eq_true,Bool.or_eq_true,Bool.not_eq_true',decide_eq_false_iff_not,true_iff,false_iff,iff_true,iff_false,Bool.true_eq_false,Bool.false_eq_true,and_false,false_and,and_true,true_and]; omega)
  ·intro _ _
   simp(maxSteps:=9^9)only[↓VP,VQ,seval]
   repeat'(first|intro _|apply And.intro)
   all_goals try first|omega|(simp only[LL];omega)|exact nlC (by decide) _|exact nbC rfl
   all_goals try (refine forget_fin hmb ?_; rw [nameB_not hlt (k2 (decide_eq_false (by omega)))])
   all_goals
    obtain ⟨k3,k4⟩ := k1 (decide_eq_true (by omega))
    refine ⟨k + 1,⟨by omega,fun i hi => ?_⟩,by dsimp only; omega,?_⟩
    ·by_cases e : i = k
     ·subst e; exact k4
     ·exact hp i (by omega)
    ·(simp only [FE,↓FP,seval])
     rw [k3]
 ·(refine ACall.pure (beyond_c 1 16 [(s.size : Int)]) ?_; try simp(maxSteps:=9^9)only[↓VP,VQ,seval])
  refine forget_fin hmb ?_
  rw [nameB_all fun i hi => hp i (by omega)]
  simp [offP]
  rw [Bool.eq_iff_iff]
  simp
  omega
structure RCopy where
 number : Int
 words : Int
 facts : Int
 may : Int
deriving Inhabited
structure RRule where
 if_ : Int
 then_ : Int
deriving Inhabited
structure RChest where
 words : Int
 facts : Int
 people : List ByteArray
 last : Int
 copies : List RCopy
 rules : List RRule
def failFrom {α : Type} (f : Nat → α → Int) : Nat → List α → Int × Int
 | _,[] => (0,0)
 | k,x :: xs => if f k x ≠ 0 then ((k : Int),f k x) else failFrom f (k + 1) xs
theorem failFrom_hit {α : Type} {f : Nat → α → Int} {k : Nat} {x : α} {xs : List α} (h : f k x ≠ 0) : failFrom f k (x :: xs) = ((k : Int),f k x) := if_pos h
theorem failFrom_skip {α : Type} {f : Nat → α → Int} {k : Nat} {x : α} {xs : List α} (h : ¬ f k x ≠ 0) : failFrom f k (x :: xs) = failFrom f (k + 1) xs := if_neg h
def nameErr (l : List ByteArray) (i : Nat) (s : ByteArray) : Int := if nameB s = true then (if (l.take i).any (fun x => decide (x = s)) = true then 5 else 0) else 6
theorem fresh_c (s : ByteArray) (l : List ByteArray) (hs : s.size ≤ 9223372036854775807) : PCall Tryz.prog 30 [.str s,strs l] (.int .i64 (if nameB s = true then (if l.any (fun x => decide (x = s)) = true then 5 else 0) else 6)) := by
 intro m
 have hw := where_c l s
 simp only [strs] at hw ⊢
 (refine acall_intro (E := env fun _ => .imm) (envOk _) rfl Tryz.func30 rfl Tryz.call30 (by kernel_rfl) (by simp [Tryz.ntmps30]) ?_; simp only [Tryz.f30];  simp(maxSteps:=9^9)only[↓VP,VQ,seval])
 (refine ACall.pure (hw) ?_; try simp(maxSteps:=9^9)only[↓VP,VQ,seval])
 have hany := idxL_any (fun x => decide (x = s)) l
 generalize idxL (fun x => decide (x = s)) l = j at *
 generalize l.any (fun x => decide (x = s)) = b at *
 repeat'(first|intro _|apply And.intro)
 all_goals try first|omega|(simp only[LL];omega)|exact nlC (by decide) _|exact nbC rfl
 all_goals ((refine ACall.pure (refname_c s hs) ?_; try simp(maxSteps:=9^9)only[↓VP,VQ,seval]))
 all_goals repeat'(first|intro _|apply And.intro)
 all_goals subst hany
 all_goals simp_all
end Go.Proofs.YtdmejgfcaacdoaaGreat.Abs
