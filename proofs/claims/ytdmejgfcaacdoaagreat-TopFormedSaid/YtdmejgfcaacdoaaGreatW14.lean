/- Lemmas for the statements of this seat (W14): they hold without conditions beyond those that each one states. -/
import Derived.Test.YtdmejgfcaacdoaaGreatW13
import Derived.Laws.RangeString
/- Contracts: names. -/
namespace Go.Proofs.YtdmejgfcaacdoaaGreat.Abs
set_option linter.unusedSimpArgs false
set_option maxHeartbeats 4000000
set_option maxRecDepth 100000
open Go Go.RowKit Go.Proofs
theorem forget_fin {m : Mem} {b : Nat} {y : Option Box} {R : Prop} (h : m b = none) (hR : R) : ∃ m'' : Mem,(∀ b' x,m'' b' = some x → (if b' = b then y else m b') = some x) ∧ R ∧ m'' = m :=
 ⟨m,fun b' x hx => by
  have : b' ≠ b := by rintro rfl; rw [h] at hx; cases hx
  rw [if_neg this]; exact hx,hR,rfl⟩
theorem upd_upd {α : Type} (f : Nat → α) (i : Nat) (x y : α) : upd (upd f i x) i y = upd f i y := by
 funext k
 by_cases e : k = i
 ·subst e; rw [upd_same,upd_same]
 ·rw [upd_ne _ _ e,upd_ne _ _ e,upd_ne _ _ e]
def nameAt (i b : Nat) : Bool := decide ((97 ≤ b ∧ b ≤ 122) ∨ (0 < i ∧ (b = 46 ∨ (48 ≤ b ∧ b ≤ 57))))
def byteAt (s : ByteArray) (i : Nat) : Nat := (s.data.toList.getD i 0).toNat
theorem byte_fold (s : ByteArray) (k : Nat) : (s.data.toList.getD k 0).toNat = byteAt s k := rfl
theorem byteAt_lt (s : ByteArray) (k : Nat) : byteAt s k < 256 := UInt8.toNat_lt _
theorem range_all_succ (n : Nat) (p : Nat → Bool) : (List.range (n + 1)).all p = ((List.range n).all p && p n) := by
 rw [List.range_succ,List.all_append]; simp
def nameB (s : ByteArray) : Bool := decide (1 ≤ s.size ∧ s.size ≤ 16) && (List.range s.size).all fun i => nameAt i (byteAt s i)
theorem nameB_all {s : ByteArray} (h : ∀ i < s.size,nameAt i (byteAt s i) = true) : nameB s = decide (1 ≤ s.size ∧ s.size ≤ 16) := by
 have : (List.range s.size).all (fun i => nameAt i (byteAt s i)) = true := by
  rw [List.all_eq_true]; intro i hi; exact h i (List.mem_range.1 hi)
 simp [nameB,this]
theorem nameB_not {s : ByteArray} {i : Nat} (hi : i < s.size) (h : nameAt i (byteAt s i) = false) : nameB s = false := by
 have : (List.range s.size).all (fun i => nameAt i (byteAt s i)) = false := by
  rw [Bool.eq_false_iff]; intro h'
  rw [List.all_eq_true] at h'
  have := h' i (List.mem_range.2 hi)
  rw [h] at this; cases this
 simp [nameB,this]
theorem refname_c (s : ByteArray) (hs : s.size ≤ 9223372036854775807) : PCall Tryz.prog 91 [.str s] (.bool (nameB s)) := by
 intro m
 (refine acall_intro (E := envC (fun _ => .imm) false [5,6]) (envCOk _ _ _) rfl Tryz.func91 rfl Tryz.call91 (by kernel_rfl) (by simp [Tryz.ntmps91]) ?_; simp only [Tryz.f91];  simp(maxSteps:=9^9)only[↓VP,VQ,seval])
 (refine ACall.pure (in_c _ _ _) ?_; try simp(maxSteps:=9^9)only[↓VP,VQ,seval])
 refine aloop (envCOk _ _ _) (fun k : Nat => ⟨[(0,.v (.str s)),(3,.v (.bool (decide (1 ≤ (s.size : Int) ∧ (s.size : Int) ≤ 16) && (List.range k).all fun i => nameAt i (byteAt s i)))),(4,.v (.int .i64 k))],[],[],m⟩)
  (fun k => k ≤ s.size) (fun k => s.size - k) 0 (fun _ => rfl) (by simp) (by (simp only [FE,↓FP,seval]); try simp) ?_
 intro k hk
 have hb := byteAt_lt s k
 simp(maxSteps:=9^9)only[↓VP,VQ,seval]
 repeat'(first|intro _|apply And.intro)
 all_goals try first|omega|(simp only[LL];omega)|exact nlC (by decide) _|exact nbC rfl
 ·refine acut (envCOk _ _ _) (fun _ : Unit => ⟨[(0,.v (.str s)),(3,.v (.bool (decide (1 ≤ (s.size : Int) ∧ (s.size : Int) ≤ 16) && (List.range k).all fun i => nameAt i (byteAt s i)))),(4,.v (.int .i64 k)),
   (5,.v (.bool (decide (0 < k ∧ (byteAt s k = 46 ∨ (48 ≤ byteAt s k ∧ byteAt s k ≤ 57))))))],[],[],m⟩) (fun _ => True) (fun _ => rfl) ?_ ?_
  ·simp(maxSteps:=9^9)only[↓VP,VQ,seval,byte_fold]
   repeat'(first|intro _|apply And.intro)
   all_goals try first|omega|(simp only[LL];omega)|exact nlC (by decide) _|exact nbC rfl
   all_goals try ((refine ACall.pure (in_c _ _ _) ?_; try simp(maxSteps:=9^9)only[↓VP,VQ,seval]))
   all_goals repeat'(first|intro _|apply And.intro)
   all_goals (refine ⟨(),?_⟩; (simp only [FE,↓FP,seval]))
   all_goals (congr 2; rw [Bool.eq_iff_iff]; simp only [decide_eq_true_eq,Bool.and_eq_true,Bool.or_eq_true,Bool.not_eq_true',decide_eq_false_iff_not,true_iff,false_iff,iff_true,iff_false,Bool.true_eq_false,Bool.false_eq_true,and_false,false_and,and_true,true_and]; omega)
  ·intro _ _
   simp(maxSteps:=9^9)only[↓VP,VQ,seval]
   refine acut (envCOk _ _ _) (fun _ : Unit => ⟨[(0,.v (.str s)),(3,.v (.bool (decide (1 ≤ (s.size : Int) ∧ (s.size : Int) ≤ 16) && (List.range (k + 1)).all fun i => nameAt i (byteAt s i)))),(4,.v (.int .i64 k))],[],[],m⟩) (fun _ => True) (fun _ => rfl) ?_ ?_
   ·simp(maxSteps:=9^9)only[↓VP,VQ,seval,byte_fold]
    repeat'(first|intro _|apply And.intro)
    all_goals try first|omega|(simp only[LL];omega)|exact nlC (by decide) _|exact nbC rfl
    all_goals try ((refine ACall.pure (in_c _ _ _) ?_; try simp(maxSteps:=9^9)only[↓VP,VQ,seval]))
    all_goals repeat'(first|intro _|apply And.intro)
    all_goals (refine ⟨(),?_⟩; (simp only [FE,↓FP,seval]); rw [range_all_succ,← Bool.and_assoc])
    ·have h3 : (decide (1 ≤ (s.size : Int) ∧ (s.size : Int) ≤ 16) && (List.range k).all fun i => nameAt i (byteAt s i)) = true := by assumption
     rw [h3,Bool.true_and,nameAt]; congr 2; rw [decide_eq_decide]; omega
    ·have h3 : (decide (1 ≤ (s.size : Int) ∧ (s.size : Int) ≤ 16) && (List.range k).all fun i => nameAt i (byteAt s i)) = true := by assumption
     rw [h3,Bool.true_and,nameAt]; congr 2; exact (decide_eq_true (by omega)).symm
    ·rename_i h3
     rw [Bool.eq_false_iff.2 h3]; simp
   ·intro _ _
    simp(maxSteps:=9^9)only[↓VP,VQ,seval]
    repeat'(first|intro _|apply And.intro)
    all_goals try first|omega|(simp only[LL];omega)|exact nlC (by decide) _|exact nbC rfl
    refine ⟨k + 1,by dsimp only; omega,by dsimp only; omega,?_⟩
    (simp only [FE,↓FP,seval])
    simp
 ·have : nameB s = (decide (1 ≤ (s.size : Int) ∧ (s.size : Int) ≤ 16) && (List.range k).all fun i => nameAt i (byteAt s i)) := by
   have e : k = s.size := by omega
   have h1 : decide (1 ≤ s.size ∧ s.size ≤ 16) = decide (1 ≤ (s.size : Int) ∧ (s.size : Int) ≤ 16) := by rw [decide_eq_decide]; omega
   rw [e,nameB,h1]
  rw [this]
theorem byteAt_get (s : ByteArray) {k : Nat} (h : k < s.size) : byteAt s k = (s[k]'h).toNat := by
 have h' : k < s.data.toList.length := by simpa using h
 unfold byteAt
 rw [List.getD_eq_getElem?_getD,List.getElem?_eq_getElem h']
 rfl
theorem decode_low {s : ByteArray} {k : Nat} (h : k < s.size) (ha : byteAt s k < 128) : Utf8.decode s k = (byteAt s k,1) := by
 rw [byteAt_get s h] at ha ⊢; exact decode_ascii s k h ha
theorem decode_hi {s : ByteArray} {k : Nat} (h : k < s.size) (ha : 128 ≤ byteAt s k) : 128 ≤ (Utf8.decode s k).1 ∧ 1 ≤ (Utf8.decode s k).2 := by
 rw [byteAt_get s h] at ha; exact decode_high s k h ha
theorem name_key {s : ByteArray} {k : Nat} (h : k < s.size) : (nameAt k (Utf8.decode s k).1 = true → Utf8.decode s k = (byteAt s k,1) ∧ nameAt k (byteAt s k) = true) ∧
  (nameAt k (Utf8.decode s k).1 = false → nameAt k (byteAt s k) = false) := by
 by_cases hb : byteAt s k < 128
 ·rw [decode_low h hb]; exact ⟨fun h' => ⟨rfl,h'⟩,fun h' => h'⟩
 ·have h1 := (decode_hi h (by omega)).1
  have h2 : nameAt k (Utf8.decode s k).1 = false := decide_eq_false (by omega)
  have h3 : nameAt k (byteAt s k) = false := decide_eq_false (by omega)
  rw [h2]; exact ⟨fun h => (by cases h),fun _ => h3⟩
theorem name_c (s : ByteArray) (hs : s.size ≤ 9223372036854775807) : PCall Tryz.prog 80 [.str s] (.bool (nameB s)) := by
 intro m
 refine ACall.forget ?_
 (refine acall_intro (E := envC (fun _ => .imm) false [4]) (envCOk _ _ _) rfl Tryz.func80 rfl Tryz.call80 (by kernel_rfl) (by simp [Tryz.ntmps80]) ?_; simp only [Tryz.f80];  simp(maxSteps:=9^9)only[↓VP,VQ,seval])
 intro b hmb
 refine aloop (envCOk _ _ _) (fun k : Nat => ⟨[(0,.v (.str s)),(7,.v (.ptr b 0))],[],[],upd m b (some (.iter s k))⟩)
  (fun k => k ≤ s.size ∧ ∀ i < k,nameAt i (byteAt s i) = true) (fun k => s.size - k) 0 (fun _ => rfl) (by simp) (by (simp only [FE,↓FP,seval]); try simp) ?_
 rintro k ⟨hk,hp⟩
 simp(maxSteps:=9^9)only[↓VP,VQ,seval]
 repeat'(first|intro _|apply And.intro)
 all_goals try first|omega|(simp only[LL];omega)|exact nlC (by decide) _|exact nbC rfl
 ·rename_i hlt
  obtain ⟨k1,k2⟩ := name_key hlt
  refine acut (envCOk _ _ _) (fun _ : Unit => ⟨[(0,.v (.str s)),(3,.v (.int .i64 k)),(4,.v (.int .i32 (Utf8.decode s k).1)),(5,.v (.bool (decide (97 ≤ (Utf8.decode s k).1 ∧ (Utf8.decode s k).1 ≤ 122)))),(7,.v (.ptr b 0))],[],[],
   upd m b (some (.iter s (k + (Utf8.decode s k).2)))⟩) (fun _ => True) (fun _ => rfl) ?_ ?_
  ·simp(maxSteps:=9^9)only[↓VP,VQ,seval]
   repeat'(first|intro _|apply And.intro)
   all_goals try first|omega|(simp only[LL];omega)|exact nlC (by decide) _|exact nbC rfl
   all_goals (refine ⟨(),?_⟩; (simp only [FE,↓FP,seval]); refine ⟨?_,upd_upd _ _ _ _⟩)
   all_goals (congr 2; rw [Bool.eq_iff_iff]; simp only [decide_eq_true_eq,Bool.and_eq_true,Bool.or_eq_true,Bool.not_eq_true',decide_eq_false_iff_not,true_iff,false_iff,iff_true,iff_false,Bool.true_eq_false,Bool.false_eq_true,and_false,false_and,and_true,true_and]; omega)
  ·intro _ _
   simp(maxSteps:=9^9)only[↓VP,VQ,seval]
   repeat'(first|intro _|apply And.intro)
   all_goals try first|omega|(simp only[LL];omega)|exact nlC (by decide) _|exact nbC rfl
   all_goals try (refine forget_fin hmb ?_; rw [nameB_not hlt (k2 (decide_eq_false (by omega)))])
   all_goals
    obtain ⟨k3,k4⟩ := k1 (decide_eq_true (by omega))
    refine ⟨k + 1,⟨by omega,fun i hi => ?_⟩,by dsimp only; omega,?_⟩
    ·by_cases e : i = k
     ·subst e; exact k4
     ·exact hp i (by omega)
    ·(simp only [FE,↓FP,seval])
     rw [k3]
 ·(refine ACall.pure (beyond_c 1 16 [(s.size : Int)]) ?_; try simp(maxSteps:=9^9)only[↓VP,VQ,seval])
  refine forget_fin hmb ?_
  rw [nameB_all fun i hi => hp i (by omega)]
  simp [offP]
  rw [Bool.eq_iff_iff]
  simp
  omega
structure RCopy where
 number : Int
 words : Int
 facts : Int
 may : Int
deriving Inhabited
structure RRule where
 if_ : Int
 then_ : Int
deriving Inhabited
structure RChest where
 words : Int
 facts : Int
 people : List ByteArray
 last : Int
 copies : List RCopy
 rules : List RRule
def copyA (x : RCopy) : AV := .agg [.int .i64 x.number,.int .i64 x.words,.int .i64 x.facts,.int .i64 x.may]
def ruleA (x : RRule) : AV := .agg [.int .i64 x.if_,.int .i64 x.then_]
def chestL (c : RChest) : List AV := [.int .i64 c.words,.int .i64 c.facts,strs c.people,.int .i64 c.last,.slice 4 (c.copies.map copyA),.slice 2 (c.rules.map ruleA)]
def chestA (c : RChest) : AV := .agg (chestL c)
def failFrom {α : Type} (f : Nat → α → Int) : Nat → List α → Int × Int
 | _,[] => (0,0)
 | k,x :: xs => if f k x ≠ 0 then ((k : Int),f k x) else failFrom f (k + 1) xs
theorem failFrom_hit {α : Type} {f : Nat → α → Int} {k : Nat} {x : α} {xs : List α} (h : f k x ≠ 0) : failFrom f k (x :: xs) = ((k : Int),f k x) := if_pos h
theorem failFrom_skip {α : Type} {f : Nat → α → Int} {k : Nat} {x : α} {xs : List α} (h : ¬ f k x ≠ 0) : failFrom f k (x :: xs) = failFrom f (k + 1) xs := if_neg h
theorem failingStr_c (g : FuncId) (caps : List AV) (l : List ByteArray) (f : Nat → ByteArray → Int) (h : ∀ (i : Nat) (hi : i < l.length),PCall Tryz.prog g ([.int .i64 i,.str l[i]] ++ caps) (.int .i64 (f i l[i]))) :
  PCall Tryz.prog 141 [strs l,.fn (.func g) [] caps] (.tuple [.int .i64 (failFrom f 0 l).1,.int .i64 (failFrom f 0 l).2]) := by
 intro m
 simp only [strs]
 (refine acall_len Tryz.call141 fun hlen => ?_; refine acall_intro (E := env fun _ => .imm) (envOk _) rfl Tryz.func141 rfl Tryz.call141 (by kernel_rfl) (by simp [Tryz.ntmps141]) ?_; simp only [Tryz.f141];  simp(maxSteps:=9^9)only[↓VP,VQ,seval])
 simp only [lenOk_cons,lenOk_nil,List.length_map,and_true,maxLen_eq] at hlen
 intro _
 refine aloop (envOk _) (fun k : Nat => ⟨[(0,.v (.slice 1 (l.map AV.str))),(1,.v (.fn (.func g) [] caps)),(9,.v (.slice 1 (l.map AV.str))),(10,.v (.int .i64 l.length)),(11,.v (.int .i64 k))],[],[],m⟩)
  (fun k => k ≤ l.length ∧ failFrom f k (l.drop k) = failFrom f 0 l) (fun k => l.length - k) 0 (fun _ => rfl) (by simp) (by (simp only [FE,↓FP,seval]); try simp) ?_
 rintro k ⟨hk,hf⟩
 simp(maxSteps:=9^9)only[↓VP,VQ,seval]
 repeat'(first|intro _|apply And.intro)
 all_goals try first|omega|(simp only[LL];omega)|exact nlC (by decide) _|exact nbC rfl
 ·have hlt : k < l.length := by omega
  have e1 : l[k]! = l[k] := getD_any hlt
  rw [List.drop_eq_getElem_cons hlt] at hf
  have hc := h k hlt
  simp only [strs,List.cons_append,List.nil_append] at hc
  rw [← e1] at hc
  refine ACall.pure hc ?_
  simp(maxSteps:=9^9)only[↓VP,VQ,seval]
  repeat'(first|intro _|apply And.intro)
  all_goals try first|omega|(simp only[LL];omega)|exact nlC (by decide) _|exact nbC rfl
  ·have hne : f k l[k]! ≠ 0 := by assumption
   rw [e1] at hne
   rw [← hf,failFrom_hit hne,e1]
  ·have heq : ¬ f k l[k]! ≠ 0 := by assumption
   rw [e1] at heq
   rw [failFrom_skip heq] at hf
   (refine ⟨k + 1,?_,by dsimp only; omega,?_⟩; rotate_left 1; · ((simp only [FE,↓FP,seval]); try simp []))
   exact ⟨by omega,hf⟩
 ·rw [List.drop_eq_nil_of_le (by omega)] at hf
  rw [← hf]; rfl
theorem failingCopy_c (g : FuncId) (caps : List AV) (l : List RCopy) (f : Nat → RCopy → Int) (h : ∀ (i : Nat) (hi : i < l.length),PCall Tryz.prog g ([.int .i64 i,copyA l[i]] ++ caps) (.int .i64 (f i l[i]))) :
  PCall Tryz.prog 144 [.slice 4 (l.map copyA),.fn (.func g) [] caps] (.tuple [.int .i64 (failFrom f 0 l).1,.int .i64 (failFrom f 0 l).2]) := by
 intro m
 refine acall_len Tryz.call144 fun hlen => ?_; (refine acall_intro (E := envC (modeAt [7] []) false []) (envCOk _ _ _) rfl Tryz.func144 rfl Tryz.call144 (by kernel_rfl) (by simp [Tryz.ntmps144]) ?_; simp only [Tryz.f144];  simp(maxSteps:=9^9)only[↓VP,VQ,seval])
 simp only [lenOk_cons,lenOk_nil,List.length_map,and_true,maxLen_eq] at hlen
 intro _
 refine aloop (envCOk _ _ _) (fun k : Nat => ⟨[(0,.v (.slice 4 (l.map copyA))),(1,.v (.fn (.func g) [] caps)),(9,.v (.slice 4 (l.map copyA))),(10,.v (.int .i64 l.length)),(11,.v (.int .i64 k))],[],[],m⟩)
  (fun k => k ≤ l.length ∧ failFrom f k (l.drop k) = failFrom f 0 l) (fun k => l.length - k) 0 (fun _ => rfl) (by simp) (by (simp only [FE,↓FP,seval]); try simp) ?_
 rintro k ⟨hk,hf⟩
 simp(maxSteps:=9^9)only[↓VP,VQ,seval,copyA]
 repeat'(first|intro _|apply And.intro)
 all_goals try first|omega|(simp only[LL];omega)|exact nlC (by decide) _|exact nbC rfl
 ·have hlt : k < l.length := by omega
  have e1 : l[k]! = l[k] := getD_any hlt
  rw [List.drop_eq_getElem_cons hlt] at hf
  have hc := h k hlt
  simp only [copyA,List.cons_append,List.nil_append] at hc
  rw [← e1] at hc
  refine ACall.pure hc ?_
  simp(maxSteps:=9^9)only[↓VP,VQ,seval]
  repeat'(first|intro _|apply And.intro)
  all_goals try first|omega|(simp only[LL];omega)|exact nlC (by decide) _|exact nbC rfl
  ·have hne : f k l[k]! ≠ 0 := by assumption
   rw [e1] at hne
   rw [← hf,failFrom_hit hne,e1]
  ·have heq : ¬ f k l[k]! ≠ 0 := by assumption
   rw [e1] at heq
   rw [failFrom_skip heq] at hf
   (refine ⟨k + 1,?_,by dsimp only; omega,?_⟩; rotate_left 1; · ((simp only [FE,↓FP,seval]); try simp []))
   exact ⟨by omega,hf⟩
 ·rw [List.drop_eq_nil_of_le (by omega)] at hf
  rw [← hf]; rfl
theorem failingRule_c (g : FuncId) (caps : List AV) (l : List RRule) (f : Nat → RRule → Int) (h : ∀ (i : Nat) (hi : i < l.length),PCall Tryz.prog g ([.int .i64 i,ruleA l[i]] ++ caps) (.int .i64 (f i l[i]))) :
  PCall Tryz.prog 146 [.slice 2 (l.map ruleA),.fn (.func g) [] caps] (.tuple [.int .i64 (failFrom f 0 l).1,.int .i64 (failFrom f 0 l).2]) := by
 intro m
 refine acall_len Tryz.call146 fun hlen => ?_; (refine acall_intro (E := envC (modeAt [7] []) false []) (envCOk _ _ _) rfl Tryz.func146 rfl Tryz.call146 (by kernel_rfl) (by simp [Tryz.ntmps146]) ?_; simp only [Tryz.f146];  simp(maxSteps:=9^9)only[↓VP,VQ,seval])
 simp only [lenOk_cons,lenOk_nil,List.length_map,and_true,maxLen_eq] at hlen
 intro _
 refine aloop (envCOk _ _ _) (fun k : Nat => ⟨[(0,.v (.slice 2 (l.map ruleA))),(1,.v (.fn (.func g) [] caps)),(9,.v (.slice 2 (l.map ruleA))),(10,.v (.int .i64 l.length)),(11,.v (.int .i64 k))],[],[],m⟩)
  (fun k => k ≤ l.length ∧ failFrom f k (l.drop k) = failFrom f 0 l) (fun k => l.length - k) 0 (fun _ => rfl) (by simp) (by (simp only [FE,↓FP,seval]); try simp) ?_
 rintro k ⟨hk,hf⟩
 simp(maxSteps:=9^9)only[↓VP,VQ,seval,ruleA]
 repeat'(first|intro _|apply And.intro)
 all_goals try first|omega|(simp only[LL];omega)|exact nlC (by decide) _|exact nbC rfl
 ·have hlt : k < l.length := by omega
  have e1 : l[k]! = l[k] := getD_any hlt
  rw [List.drop_eq_getElem_cons hlt] at hf
  have hc := h k hlt
  simp only [ruleA,List.cons_append,List.nil_append] at hc
  rw [← e1] at hc
  refine ACall.pure hc ?_
  simp(maxSteps:=9^9)only[↓VP,VQ,seval]
  repeat'(first|intro _|apply And.intro)
  all_goals try first|omega|(simp only[LL];omega)|exact nlC (by decide) _|exact nbC rfl
  ·have hne : f k l[k]! ≠ 0 := by assumption
   rw [e1] at hne
   rw [← hf,failFrom_hit hne,e1]
  ·have heq : ¬ f k l[k]! ≠ 0 := by assumption
   rw [e1] at heq
   rw [failFrom_skip heq] at hf
   (refine ⟨k + 1,?_,by dsimp only; omega,?_⟩; rotate_left 1; · ((simp only [FE,↓FP,seval]); try simp []))
   exact ⟨by omega,hf⟩
 ·rw [List.drop_eq_nil_of_le (by omega)] at hf
  rw [← hf]; rfl
theorem offOne_c (lo hi n : Int) : PCall Tryz.prog 103 [.int .i64 lo,.int .i64 hi,.slice 1 [.int .i64 n]] (.bool (offP lo hi n)) := by
 have := off_c lo hi [n]
 simpa [ints] using this
def nameErr (l : List ByteArray) (i : Nat) (s : ByteArray) : Int := if nameB s = true then (if (l.take i).any (fun x => decide (x = s)) = true then 5 else 0) else 6
def copyErr (c : RChest) (w f p : Int) (i : Nat) (x : RCopy) : Int :=
 if offP 1 c.last x.number = true then 7 else if 0 < i ∧ x.number ≤ (c.copies[i - 1]!).number then 2
 else if (offP 0 (w - 1) x.words || offP 0 (f - 1) x.facts || offP 0 (p - 1) x.may) = true then 4 else 0
def ruleErr (c : RChest) (f : Int) (x : RRule) : Int :=
 if (offP 0 (f - 1) x.if_ || offP 0 (c.facts - 1) x.then_) = true then 4 else if x.if_ = 0 then 2 else 0
theorem check1_c (c : RChest) (i : Nat) (s : ByteArray) (hi : i ≤ c.people.length) (hs : s.size ≤ 9223372036854775807) : PCall Tryz.prog 142 [.int .i64 i,.str s,.eptr (chestL c)] (.int .i64 (nameErr c.people i s)) := by
 intro m
 simp only [chestL,strs]
 (refine acall_intro (E := env fun _ => .imm) (envOk _) rfl Tryz.func142 rfl Tryz.call142 (by kernel_rfl) (by simp [Tryz.ntmps142]) ?_; simp only [Tryz.f142];  simp(maxSteps:=9^9)only[↓VP,VQ,seval])
 (refine ACall.pure (name_c s hs) ?_; try simp(maxSteps:=9^9)only[↓VP,VQ,seval])
 repeat'(first|intro _|apply And.intro)
 all_goals try first|omega|(simp only[LL];omega)|exact nlC (by decide) _|exact nbC rfl
 ·rename_i h
  simp [nameErr,h]
 ·rename_i h
  have hc := containsStr_c (c.people.take i) s
  simp only [strs,List.map_take] at hc
  (refine ACall.pure (hc) ?_; try simp(maxSteps:=9^9)only[↓VP,VQ,seval])
  repeat'(first|intro _|apply And.intro)
  all_goals try first|omega|(simp only[LL];omega)|exact nlC (by decide) _|exact nbC rfl
  all_goals simp_all [nameErr]
theorem check2_c (c : RChest) (w f p : Int) (i : Nat) (x : RCopy) (hi : i ≤ c.copies.length) (hw : 0 ≤ w ∧ w ≤ 1000) (hf : 0 ≤ f ∧ f ≤ 1000) (hp : 0 ≤ p ∧ p ≤ 1000) (hlen : c.copies.length ≤ 6) :
  PCall Tryz.prog 145 [.int .i64 i,copyA x,.eptr (chestL c),.eptr [.int .i64 w],.eptr [.int .i64 f],.eptr [.int .i64 p]] (.int .i64 (copyErr c w f p i x)) := by
 intro m
 simp only [chestL,copyA]
 (refine acall_intro (E := env fun _ => .imm) (envOk _) rfl Tryz.func145 rfl Tryz.call145 (by kernel_rfl) (by simp [Tryz.ntmps145]) ?_; simp only [Tryz.f145];  simp(maxSteps:=9^9)only[↓VP,VQ,seval])
 repeat'(first|intro _|apply And.intro)
 all_goals try first|omega|(simp only[LL];omega)|exact nlC (by decide) _|exact nbC rfl
 (refine ACall.pure (offOne_c 1 c.last x.number) ?_; try simp(maxSteps:=9^9)only[↓VP,VQ,seval])
 repeat'(first|intro _|apply And.intro)
 ·rename_i h
  simp [copyErr,h]
 ·rename_i h
  have hidx : ((i : Int) - 1).toNat = i - 1 := by omega
  (refine adraw (by first | exact envOk _ | exact envCOk _ _ _) mixed [⟨false,false,0⟩,⟨false,false,0⟩,⟨false,false,0⟩,⟨false,false,0⟩,⟨false,false,0⟩,⟨false,false,0⟩,⟨false,false,0⟩,⟨false,false,0⟩,⟨false,false,0⟩,⟨false,false,0⟩,⟨false,false,0⟩,⟨false,false,0⟩,⟨false,false,0⟩,⟨false,false,0⟩,⟨false,false,0⟩] (by kernel_rfl) ?_; show vcOpsD _ _ _ (_ :: _) _ _)
  simp(maxSteps:=9^9)only[↓VP,VQ,seval,copyA,hidx]
  repeat'(first|intro _|apply And.intro)
  all_goals try first|omega|(simp only[LL];omega)|exact nlC (by decide) _|exact nbC rfl
  ·have h3 : 0 < i := by omega
   have h2 : x.number ≤ (c.copies[i - 1]!).number := by assumption
   rw [copyErr,if_neg h,if_pos ⟨h3,h2⟩]
  all_goals have hno : ¬ (0 < i ∧ x.number ≤ (c.copies[i - 1]!).number) := by omega
  all_goals ((refine ACall.pure (offOne_c 0 (w - 1) x.words) ?_; try simp(maxSteps:=9^9)only[↓VP,VQ,seval]))
  all_goals repeat'(first|intro _|apply And.intro)
  all_goals try first|omega|(simp only[LL];omega)|exact nlC (by decide) _|exact nbC rfl
  all_goals try ((refine ACall.pure (offOne_c 0 (f - 1) x.facts) ?_; try simp(maxSteps:=9^9)only[↓VP,VQ,seval]))
  all_goals repeat'(first|intro _|apply And.intro)
  all_goals try first|omega|(simp only[LL];omega)|exact nlC (by decide) _|exact nbC rfl
  all_goals try ((refine ACall.pure (offOne_c 0 (p - 1) x.may) ?_; try simp(maxSteps:=9^9)only[↓VP,VQ,seval]))
  all_goals repeat'(first|intro _|apply And.intro)
  all_goals try first|omega|(simp only[LL];omega)|exact nlC (by decide) _|exact nbC rfl
  all_goals simp_all [copyErr]
theorem check3_c (c : RChest) (f : Int) (i : Nat) (x : RRule) (hf : 0 ≤ f ∧ f ≤ 1000) (hc : 0 ≤ c.facts ∧ c.facts ≤ 1000) :
  PCall Tryz.prog 147 [.int .i64 i,ruleA x,.eptr [.int .i64 f],.eptr (chestL c)] (.int .i64 (ruleErr c f x)) := by
 intro m
 simp only [chestL,ruleA]
 (refine acall_intro (E := env fun _ => .imm) (envOk _) rfl Tryz.func147 rfl Tryz.call147 (by kernel_rfl) (by simp [Tryz.ntmps147]) ?_; simp only [Tryz.f147];  simp(maxSteps:=9^9)only[↓VP,VQ,seval])
 repeat'(first|intro _|apply And.intro)
 all_goals try first|omega|(simp only[LL];omega)|exact nlC (by decide) _|exact nbC rfl
 (refine ACall.pure (offOne_c 0 (f - 1) x.if_) ?_; try simp(maxSteps:=9^9)only[↓VP,VQ,seval])
 repeat'(first|intro _|apply And.intro)
 all_goals try first|omega|(simp only[LL];omega)|exact nlC (by decide) _|exact nbC rfl
 all_goals try ((refine ACall.pure (offOne_c 0 (c.facts - 1) x.then_) ?_; try simp(maxSteps:=9^9)only[↓VP,VQ,seval]))
 repeat'(first|intro _|apply And.intro)
 all_goals try first|omega|(simp only[LL];omega)|exact nlC (by decide) _|exact nbC rfl
 all_goals simp_all [ruleErr]
theorem fresh_c (s : ByteArray) (l : List ByteArray) (hs : s.size ≤ 9223372036854775807) : PCall Tryz.prog 30 [.str s,strs l] (.int .i64 (if nameB s = true then (if l.any (fun x => decide (x = s)) = true then 5 else 0) else 6)) := by
 intro m
 have hw := where_c l s
 simp only [strs] at hw ⊢
 (refine acall_intro (E := env fun _ => .imm) (envOk _) rfl Tryz.func30 rfl Tryz.call30 (by kernel_rfl) (by simp [Tryz.ntmps30]) ?_; simp only [Tryz.f30];  simp(maxSteps:=9^9)only[↓VP,VQ,seval])
 (refine ACall.pure (hw) ?_; try simp(maxSteps:=9^9)only[↓VP,VQ,seval])
 have hany := idxL_any (fun x => decide (x = s)) l
 generalize idxL (fun x => decide (x = s)) l = j at *
 generalize l.any (fun x => decide (x = s)) = b at *
 repeat'(first|intro _|apply And.intro)
 all_goals try first|omega|(simp only[LL];omega)|exact nlC (by decide) _|exact nbC rfl
 all_goals ((refine ACall.pure (refname_c s hs) ?_; try simp(maxSteps:=9^9)only[↓VP,VQ,seval]))
 all_goals repeat'(first|intro _|apply And.intro)
 all_goals subst hany
 all_goals simp_all
def pw (n : Int) : Int := ((2 ^ n.toNat : Nat) : Int)
def namesR (c : RChest) : Int × Int := failFrom (nameErr c.people) 0 c.people
def copiesR (c : RChest) : Int × Int := failFrom (copyErr c (pw c.words) (pw c.facts) (pw c.people.length)) 0 c.copies
def rulesR (c : RChest) : Int × Int := failFrom (fun _ => ruleErr c (pw c.facts)) 0 c.rules
def checkR (c : RChest) : Int × Int × Int :=
 if (offP 1 5 c.words || offP 1 6 c.facts || offP 0 30 c.last) = true then (1,0,7)
 else if 3 < c.people.length then (2,0,3)
 else if (namesR c).2 ≠ 0 then (2,(namesR c).1,(namesR c).2)
 else if 6 < c.copies.length then (3,0,3)
 else if (copiesR c).2 ≠ 0 then (3,(copiesR c).1,(copiesR c).2)
 else if 4 < c.rules.length then (4,0,3)
 else if (rulesR c).2 ≠ 0 then (4,(rulesR c).1,(rulesR c).2)
 else (0,0,0)
theorem pw_le {n : Int} {k : Nat} (h : n ≤ k) : pw n ≤ ((2 ^ k : Nat) : Int) := by
 unfold pw
 exact Int.ofNat_le.2 (Nat.pow_le_pow_right (by decide) (by omega))
theorem pw_pos (n : Int) : 0 < pw n := Int.ofNat_lt.2 (Nat.pow_pos (by decide))
def namesFit (c : RChest) : Prop := ∀ s ∈ c.people,s.size ≤ 9223372036854775807
theorem check_first (c : RChest) (h0 : (offP 1 5 c.words || offP 1 6 c.facts || offP 0 30 c.last) = true) : PCall Tryz.prog 102 [chestA c] (.tuple [.int .i64 1,.int .i64 0,.int .i64 7]) := by
 have hc1 := offOne_c 1 5 c.words
 have hc2 := offOne_c 1 6 c.facts
 have hc3 := offOne_c 0 30 c.last
 intro m
 simp only [chestA,chestL,strs]
 cases h1 : offP 1 5 c.words
 ·cases h2 : offP 1 6 c.facts
  ·cases h3 : offP 0 30 c.last
   ·simp [h1,h2,h3] at h0
   ·rw [h1] at hc1; rw [h2] at hc2; rw [h3] at hc3
    (refine acall_intro (E := envC (modeAt [5,6,7] []) false []) (envCOk _ _ _) rfl Tryz.func102 rfl Tryz.call102 (by kernel_rfl) (by simp [Tryz.ntmps102]) ?_; simp only [Tryz.f102];  simp(maxSteps:=9^9)only[↓VP,VQ,seval])
    (refine ACall.pure (hc1) ?_; try simp(maxSteps:=9^9)only[↓VP,VQ,seval])
    (refine ACall.pure (hc2) ?_; try simp(maxSteps:=9^9)only[↓VP,VQ,seval])
    (refine ACall.pure (hc3) ?_; try simp(maxSteps:=9^9)only[↓VP,VQ,seval])
  ·rw [h1] at hc1; rw [h2] at hc2
   (refine acall_intro (E := envC (modeAt [5,6,7] []) false []) (envCOk _ _ _) rfl Tryz.func102 rfl Tryz.call102 (by kernel_rfl) (by simp [Tryz.ntmps102]) ?_; simp only [Tryz.f102];  simp(maxSteps:=9^9)only[↓VP,VQ,seval])
   (refine ACall.pure (hc1) ?_; try simp(maxSteps:=9^9)only[↓VP,VQ,seval])
   (refine ACall.pure (hc2) ?_; try simp(maxSteps:=9^9)only[↓VP,VQ,seval])
 ·rw [h1] at hc1
  (refine acall_intro (E := envC (modeAt [5,6,7] []) false []) (envCOk _ _ _) rfl Tryz.func102 rfl Tryz.call102 (by kernel_rfl) (by simp [Tryz.ntmps102]) ?_; simp only [Tryz.f102];  simp(maxSteps:=9^9)only[↓VP,VQ,seval])
  (refine ACall.pure (hc1) ?_; try simp(maxSteps:=9^9)only[↓VP,VQ,seval])
theorem copies_fail (c : RChest) (b1 : 1 ≤ c.words ∧ c.words ≤ 5) (b2 : 1 ≤ c.facts ∧ c.facts ≤ 6) (q1 : ¬ 3 < c.people.length) (q2 : ¬ 6 < c.copies.length) :
  PCall Tryz.prog 144 [.slice 4 (c.copies.map copyA),.fn (.func 145) [] [.eptr (chestL c),.eptr [.int .i64 (pw c.words)],.eptr [.int .i64 (pw c.facts)],.eptr [.int .i64 (pw c.people.length)]]] (.tuple [.int .i64 (copiesR c).1,.int .i64 (copiesR c).2]) := by
 have p1 := pw_le (n := c.words) (k := 5) (by omega)
 have p2 := pw_le (n := c.facts) (k := 6) (by omega)
 have p3 := pw_le (n := c.people.length) (k := 3) (by omega)
 have p4 := pw_pos c.words
 have p5 := pw_pos c.facts
 have p6 := pw_pos c.people.length
 exact failingCopy_c 145 _ c.copies (copyErr c (pw c.words) (pw c.facts) (pw c.people.length)) fun i hi => check2_c c _ _ _ i c.copies[i] (by omega) (by omega) (by omega) (by omega) (by omega)
theorem check_rest (c : RChest) (hs : namesFit c) (h0 : ¬ (offP 1 5 c.words || offP 1 6 c.facts || offP 0 30 c.last) = true) : PCall Tryz.prog 102 [chestA c] (.tuple [.int .i64 (checkR c).1,.int .i64 (checkR c).2.1,.int .i64 (checkR c).2.2]) := by
 have h1 : offP 1 5 c.words = false := by revert h0; cases offP 1 5 c.words <;> simp
 have h2 : offP 1 6 c.facts = false := by revert h0; cases offP 1 6 c.facts <;> simp
 have h3 : offP 0 30 c.last = false := by revert h0; cases offP 0 30 c.last <;> simp
 have hc1 := offOne_c 1 5 c.words
 have hc2 := offOne_c 1 6 c.facts
 have hc3 := offOne_c 0 30 c.last
 rw [h1] at hc1; rw [h2] at hc2; rw [h3] at hc3
 have b1 : 1 ≤ c.words ∧ c.words ≤ 5 := by simp [offP] at h1; omega
 have b2 : 1 ≤ c.facts ∧ c.facts ≤ 6 := by simp [offP] at h2; omega
 intro m
 have hf1 := failingStr_c 142 [.eptr (chestL c)] c.people (nameErr c.people) fun i hi => check1_c c i c.people[i] (by omega) (hs _ (List.getElem_mem hi))
 have hf2 := copies_fail c b1 b2
 have hf3 := failingRule_c 147 [.eptr [.int .i64 (pw c.facts)],.eptr (chestL c)] c.rules (fun _ => ruleErr c (pw c.facts)) fun i hi => check3_c c _ i c.rules[i] (by have := pw_le (n := c.facts) (k := 6) (by omega); have := pw_pos c.facts; omega) (by omega)
 simp only [chestL,strs] at hf1 hf2 hf3
 simp only [chestA,chestL,strs]
 (refine acall_intro (E := envC (modeAt [5,6,7] []) false []) (envCOk _ _ _) rfl Tryz.func102 rfl Tryz.call102 (by kernel_rfl) (by simp [Tryz.ntmps102]) ?_; simp only [Tryz.f102];  simp(maxSteps:=9^9)only[↓VP,VQ,seval])
 (refine ACall.pure (hc1) ?_; try simp(maxSteps:=9^9)only[↓VP,VQ,seval])
 (refine ACall.pure (hc2) ?_; try simp(maxSteps:=9^9)only[↓VP,VQ,seval])
 (refine ACall.pure (hc3) ?_; try simp(maxSteps:=9^9)only[↓VP,VQ,seval])
 repeat'(first|intro _|apply And.intro)
 ·have hR : checkR c = (2,0,3) := by rw [checkR,if_neg h0,if_pos (by omega)]
  rw [hR]
 have h4 : ¬ 3 < c.people.length := by omega
 (refine ACall.pure (hf1) ?_; try simp(maxSteps:=9^9)only[↓VP,VQ,seval])
 repeat'(first|intro _|apply And.intro)
 ·have h5 : (namesR c).2 ≠ 0 := by assumption
  have hR : checkR c = (2,(namesR c).1,(namesR c).2) := by rw [checkR,if_neg h0,if_neg h4,if_pos h5]
  rw [hR]; rfl
 ·have h5 : ¬ (namesR c).2 ≠ 0 := by assumption
  have hR : checkR c = (3,0,3) := by rw [checkR,if_neg h0,if_neg h4,if_neg h5,if_pos (by omega)]
  rw [hR]
 have h5 : ¬ (namesR c).2 ≠ 0 := by assumption
 have h6 : ¬ 6 < c.copies.length := by omega
 have hp : c.people.length ≤ 3 := by omega
 have ew : ((2 ^ c.words.toNat : Nat) : Int) = pw c.words := rfl
 have ef : ((2 ^ c.facts.toNat : Nat) : Int) = pw c.facts := rfl
 have ep : ((2 ^ c.people.length : Nat) : Int) = pw c.people.length := rfl
 have p1 := pw_le (n := c.words) (k := 5) (by omega)
 have p2 := pw_le (n := c.facts) (k := 6) (by omega)
 have p3 := pw_le (n := c.people.length) (k := 3) (by omega)
 have p4 := pw_pos c.words
 have p5 := pw_pos c.facts
 have p6 := pw_pos c.people.length
 refine adraw (envCOk _ _ _) mixed [⟨true,false,0⟩,⟨true,false,0⟩,⟨true,false,0⟩,⟨true,false,0⟩,⟨true,false,0⟩,⟨true,false,0⟩,⟨true,false,0⟩,⟨true,false,0⟩,⟨true,false,0⟩,⟨true,false,0⟩,⟨true,false,0⟩,⟨true,false,0⟩,⟨true,false,0⟩,⟨false,false,0⟩,⟨false,false,0⟩,⟨false,false,0⟩] (by kernel_rfl) ?_
 simp(maxSteps:=9^9)only[↓VP,VQ,seval,ew,ef,ep]
 repeat'(first|intro _|apply And.intro)
 all_goals try first|omega|(simp only[LL];omega)|exact nlC (by decide) _|exact nbC rfl
 have hf2' := hf2 h4 h6
 (refine ACall.pure (hf2') ?_; try simp(maxSteps:=9^9)only[↓VP,VQ,seval])
 repeat'(first|intro _|apply And.intro)
 ·have h7 : (copiesR c).2 ≠ 0 := by assumption
  have hR : checkR c = (3,(copiesR c).1,(copiesR c).2) := by rw [checkR,if_neg h0,if_neg h4,if_neg h5,if_neg h6,if_pos h7]
  rw [hR]
 ·have h7 : ¬ (copiesR c).2 ≠ 0 := by assumption
  have hR : checkR c = (4,0,3) := by rw [checkR,if_neg h0,if_neg h4,if_neg h5,if_neg h6,if_neg h7,if_pos (by omega)]
  rw [hR]
 have h7 : ¬ (copiesR c).2 ≠ 0 := by assumption
 have h8 : ¬ 4 < c.rules.length := by omega
 (refine ACall.pure (hf3) ?_; try simp(maxSteps:=9^9)only[↓VP,VQ,seval])
 repeat'(first|intro _|apply And.intro)
 ·have h9 : (rulesR c).2 ≠ 0 := by assumption
  have hR : checkR c = (4,(rulesR c).1,(rulesR c).2) := by rw [checkR,if_neg h0,if_neg h4,if_neg h5,if_neg h6,if_neg h7,if_neg h8,if_pos h9]
  rw [hR]; rfl
 ·have h9 : ¬ (rulesR c).2 ≠ 0 := by assumption
  have hR : checkR c = (0,0,0) := by rw [checkR,if_neg h0,if_neg h4,if_neg h5,if_neg h6,if_neg h7,if_neg h8,if_neg h9]
  rw [hR]
theorem check_c (c : RChest) (hs : namesFit c) : PCall Tryz.prog 102 [chestA c] (.tuple [.int .i64 (checkR c).1,.int .i64 (checkR c).2.1,.int .i64 (checkR c).2.2]) := by
 by_cases h0 : (offP 1 5 c.words || offP 1 6 c.facts || offP 0 30 c.last) = true
 ·have hR : checkR c = (1,0,7) := by rw [checkR,if_pos h0]
  rw [hR]; exact check_first c h0
 ·exact check_rest c hs h0
end Go.Proofs.YtdmejgfcaacdoaaGreat.Abs
