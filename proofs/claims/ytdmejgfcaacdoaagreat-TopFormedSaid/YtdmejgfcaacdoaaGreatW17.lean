/- Lemmas for the statements of this seat (W17): they hold without conditions beyond those that each one states. -/
import Derived.Test.YtdmejgfcaacdoaaGreatW16
import Derived.Test.YtdmejgfcaacdoaaGreatW15
/- Laws: what can be told. -/
namespace Go.Proofs.YtdmejgfcaacdoaaGreat.Abs
set_option linter.unusedSimpArgs false
open Go Go.RowKit Go.Proofs
def baseTo (v : VChest) (set : Nat) : Nat → Nat
 | 0 => 0
 | n + 1 => if set.testBit n = true then baseTo v set n ||| (v.copies[n]!).facts else baseTo v set n
def addR (s : Nat) (r : VRule) : Nat := if subS r.if_ s = true then s ||| 2 ^ r.then_ else s
def passTo (v : VChest) (s n : Nat) : Nat := (v.rules.take n).foldl addR s
def passL (v : VChest) (s : Nat) : Nat := passTo v s v.rules.length
def iterN (f : Nat → Nat) : Nat → Nat → Nat
 | 0,s => s
 | n + 1,s => f (iterN f n s)
def tellS (v : VChest) (set : Nat) : Nat := iterN (passL v) v.facts (baseTo v set v.copies.length)
theorem passTo_succ (v : VChest) (s n : Nat) (h : n < v.rules.length) : passTo v s (n + 1) = addR (passTo v s n) v.rules[n]! := by
 unfold passTo
 rw [List.take_succ_eq_append_getElem h,List.foldl_append,getD_any h]; rfl
theorem sub_addR (s : Nat) (r : VRule) (i : Nat) (h : s.testBit i = true) : (addR s r).testBit i = true := by
 unfold addR; split
 ·rw [Nat.testBit_or,h]; rfl
 ·exact h
theorem sub_foldl : ∀ (l : List VRule) (s i : Nat),s.testBit i = true → (l.foldl addR s).testBit i = true
 | [],_,_,h => h
 | r :: l,s,i,h => sub_foldl l _ i (sub_addR s r i h)
theorem sub_passTo (v : VChest) (s n i : Nat) (h : s.testBit i = true) : (passTo v s n).testBit i = true := sub_foldl _ s i h
theorem baseTo_lt (v : VChest) (hv : VOk v) (set : Nat) : ∀ n,n ≤ v.copies.length → baseTo v set n < 2 ^ v.facts
 | 0,_ => Nat.pow_pos (by decide)
 | n + 1,h => by
  have h1 := baseTo_lt v hv set n (by omega)
  unfold baseTo; split
  ·refine Nat.or_lt_two_pow h1 ?_
   have := (hv.copy _ (List.getElem_mem (show n < v.copies.length by omega))).2.2.2.1
   rwa [getD_any (by omega)]
  ·exact h1
theorem addR_lt {v : VChest} {s : Nat} {r : VRule} (hs : s < 2 ^ v.facts) (hr : r.then_ < v.facts) : addR s r < 2 ^ v.facts := by
 unfold addR; split
 ·exact Nat.or_lt_two_pow hs (Nat.pow_lt_pow_right (by decide) hr)
 ·exact hs
theorem passTo_lt (v : VChest) (hv : VOk v) {s : Nat} (hs : s < 2 ^ v.facts) : ∀ n,n ≤ v.rules.length → passTo v s n < 2 ^ v.facts
 | 0,_ => hs
 | n + 1,h => by
  rw [passTo_succ v s n (by omega)]
  refine addR_lt (passTo_lt v hv hs n (by omega)) ?_
  rw [getD_any (show n < v.rules.length by omega)]
  exact (hv.rule _ (List.getElem_mem _)).2.2
theorem passL_lt (v : VChest) (hv : VOk v) {s : Nat} (hs : s < 2 ^ v.facts) : passL v s < 2 ^ v.facts := passTo_lt v hv hs _ (Nat.le_refl _)
theorem iterN_lt (v : VChest) (hv : VOk v) {s : Nat} (hs : s < 2 ^ v.facts) : ∀ n,iterN (passL v) n s < 2 ^ v.facts
 | 0 => hs
 | n + 1 => passL_lt v hv (iterN_lt v hv hs n)
theorem tellS_lt (v : VChest) (hv : VOk v) (set : Nat) : tellS v set < 2 ^ v.facts := iterN_lt v hv (baseTo_lt v hv set _ (Nat.le_refl _)) _
def card (s n : Nat) : Nat := ((List.range n).filter s.testBit).length
theorem card_succ (s n : Nat) : card s (n + 1) = card s n + if s.testBit n = true then 1 else 0 := by
 unfold card
 rw [List.range_succ,List.filter_append,List.length_append]
 by_cases h : s.testBit n = true <;> simp [h]
theorem card_le (s : Nat) : ∀ n,card s n ≤ n
 | 0 => by simp [card]
 | n + 1 => by rw [card_succ]; have := card_le s n; split <;> omega
theorem card_mono {s t : Nat} (h : ∀ i,s.testBit i = true → t.testBit i = true) : ∀ n,card s n ≤ card t n
 | 0 => by simp [card]
 | n + 1 => by
  rw [card_succ,card_succ]
  have := card_mono h n
  by_cases e : s.testBit n = true
  ·rw [if_pos e,if_pos (h n e)]; omega
  ·rw [if_neg e]; split <;> omega
theorem card_lt {s t : Nat} (h : ∀ i,s.testBit i = true → t.testBit i = true) : ∀ n,(∃ i,i < n ∧ t.testBit i = true ∧ s.testBit i = false) → card s n < card t n
 | 0,⟨i,hi,_⟩ => by omega
 | n + 1,⟨i,hi,h1,h2⟩ => by
  rw [card_succ,card_succ]
  by_cases e : i = n
  ·subst e
   have := card_mono h i
   rw [if_pos h1,h2]; simp; omega
  ·have := card_lt h n ⟨i,by omega,h1,h2⟩
   by_cases e2 : s.testBit n = true
   ·rw [if_pos e2,if_pos (h n e2)]; omega
   ·rw [if_neg e2]; split <;> omega
theorem differ {s t n : Nat} (hs : s < 2 ^ n) (ht : t < 2 ^ n) (h : ∀ i,s.testBit i = true → t.testBit i = true) (hne : s ≠ t) : ∃ i,i < n ∧ t.testBit i = true ∧ s.testBit i = false := by
 apply Classical.byContradiction
 intro hno
 apply hne
 refine Nat.eq_of_testBit_eq fun i => ?_
 by_cases hi : i < n
 ·cases h1 : s.testBit i with
  | true => rw [h i h1]
  | false =>
   cases h2 : t.testBit i with
   | false => rfl
   | true => exact absurd ⟨i,hi,h2,h1⟩ hno
 ·rw [Nat.testBit_lt_two_pow (Nat.lt_of_lt_of_le hs (Nat.pow_le_pow_right (by decide) (by omega))),Nat.testBit_lt_two_pow (Nat.lt_of_lt_of_le ht (Nat.pow_le_pow_right (by decide) (by omega)))]
theorem card_pass (v : VChest) (hv : VOk v) {s : Nat} (hs : s < 2 ^ v.facts) (hne : passL v s ≠ s) : card s v.facts < card (passL v s) v.facts :=
 card_lt (fun i h => sub_passTo v s _ i h) _ (differ hs (passL_lt v hv hs) (fun i h => sub_passTo v s _ i h) (fun e => hne e.symm))
theorem iter_card (v : VChest) (hv : VOk v) {s : Nat} (hs : s < 2 ^ v.facts) : ∀ n,passL v (iterN (passL v) n s) = iterN (passL v) n s ∨ n < card (passL v (iterN (passL v) n s)) v.facts
 | 0 => by
  by_cases h : passL v s = s
  ·exact .inl h
  ·right; have := card_pass v hv hs h
   show 0 < card (passL v s) v.facts
   omega
 | n + 1 => by
  rcases iter_card v hv hs n with h | h
  ·left; show passL v (passL v _) = passL v _; rw [h,h]
  ·by_cases e : passL v (iterN (passL v) (n + 1) s) = iterN (passL v) (n + 1) s
   ·exact .inl e
   ·right
    have := card_pass v hv (iterN_lt v hv hs (n + 1)) e
    show n + 1 < _
    have h' : n < card (iterN (passL v) (n + 1) s) v.facts := h
    omega
theorem iter_fix (v : VChest) (hv : VOk v) {s : Nat} (hs : s < 2 ^ v.facts) : passL v (iterN (passL v) v.facts s) = iterN (passL v) v.facts s := by
 rcases iter_card v hv hs v.facts with h | h
 ·exact h
 ·have := card_le (passL v (iterN (passL v) v.facts s)) v.facts
  omega
theorem iter_more {f : Nat → Nat} {s k : Nat} (h : f (iterN f k s) = iterN f k s) : ∀ n,k ≤ n → iterN f n s = iterN f k s
 | 0,hk => by rw [show k = 0 by omega]
 | n + 1,hk => by
  by_cases e : k = n + 1
  ·rw [e]
  ·show f (iterN f n s) = _
   rw [iter_more h n (by omega),h]
theorem iter_unique {f : Nat → Nat} {s k n : Nat} (h : f (iterN f k s) = iterN f k s) (h' : f (iterN f n s) = iterN f n s) : iterN f k s = iterN f n s := by
 by_cases e : k ≤ n
 ·exact (iter_more h n e).symm
 ·exact iter_more h' k (by omega)
theorem tellS_fix (v : VChest) (hv : VOk v) (set : Nat) : passL v (tellS v set) = tellS v set := iter_fix v hv (baseTo_lt v hv set _ (Nat.le_refl _))
theorem tellS_of (v : VChest) (hv : VOk v) (set k : Nat) (h : passL v (iterN (passL v) k (baseTo v set v.copies.length)) = iterN (passL v) k (baseTo v set v.copies.length)) :
  iterN (passL v) k (baseTo v set v.copies.length) = tellS v set := iter_unique h (tellS_fix v hv set)
theorem or_bit_self {s i : Nat} (h : s.testBit i = true) : s ||| 2 ^ i = s := by
 refine Nat.eq_of_testBit_eq fun j => ?_
 rw [Nat.testBit_or,Nat.testBit_two_pow]
 by_cases e : i = j
 ·subst e; rw [h]; rfl
 ·simp [e]
theorem or_bit_ne {s i : Nat} (h : s.testBit i = false) : s ||| 2 ^ i ≠ s := by
 intro e
 have : (s ||| 2 ^ i).testBit i = true := by rw [Nat.testBit_or,Nat.testBit_two_pow]; simp
 rw [e,h] at this; cases this
theorem sub_antisymm {s t : Nat} (h : ∀ i,s.testBit i = true → t.testBit i = true) (h' : ∀ i,t.testBit i = true → s.testBit i = true) : s = t := by
 refine Nat.eq_of_testBit_eq fun i => ?_
 cases h1 : s.testBit i with
 | true => rw [h i h1]
 | false => cases h2 : t.testBit i with
  | false => rfl
  | true => rw [h' i h2] at h1; cases h1
set_option maxHeartbeats 4000000
set_option maxRecDepth 100000
def toldKv (v : VChest) (l : List Nat) : List (AV × AV) := l.map fun (s : Nat) => (.int .i64 s,.int .i64 (tellS v s))
theorem mfind_told (v : VChest) (k : Nat) : ∀ l : List Nat,mfind (.int .i64 k) (toldKv v l) = some (if k ∈ l then some (.int .i64 (tellS v k)) else none)
 | [] => by simp [toldKv,mfind]
 | s :: l => by
  have := mfind_told v k l
  show mfind (.int .i64 k) ((.int .i64 s,.int .i64 (tellS v s)) :: toldKv v l) = _
  unfold mfind
  simp only [if_true]
  by_cases e : s = k
  ·subst e; simp
  ·have e1 : ¬ (s : Int) = (k : Int) := by omega
   have e2 : ¬ k = s := fun h => e h.symm
   rw [if_neg e1,this]
   simp [e2]
def addT (l : List Nat) (s : Nat) : List Nat := if s ∈ l then l else l ++ [s]
theorem toldKv_add (v : VChest) (l : List Nat) (s : Nat) : toldKv v (l ++ [s]) = toldKv v l ++ [(.int .i64 s,.int .i64 (tellS v s))] := by simp [toldKv]
theorem tell_c (v : VChest) (hv : VOk v) (b set : Nat) (hset : set < 2 ^ 60) (l : List Nat) (m : Mem) (hm : m b = some (.map (toldKv v l))) :
  ACall Tryz.prog 98 [.eptr (seenL v b),.int .i64 set] m fun r m' => r = .int .i64 (tellS v set) ∧ m' = upd m b (some (.map (toldKv v (addT l set)))) := by
 have hc6 := hv.c
 have hr4 := hv.r
 have hf6 := hv.f
 have hpw : 2 ^ v.facts ≤ 2 ^ 6 := Nat.pow_le_pow_right (by decide) (by omega)
 have hfd := mfind_told v set l
 by_cases hin : set ∈ l
 ·rw [if_pos hin] at hfd
  have ha : addT l set = l := if_pos hin
  simp only [seenL]
  (refine acall_intro (E := envC (modeAt [9,12] []) false []) (envCOk _ _ _) rfl Tryz.func98 rfl Tryz.call98 (by kernel_rfl) (by simp [Tryz.ntmps98]) ?_; simp only [Tryz.f98];  simp(maxSteps:=9^9)only[↓VP,VQ,seval])
  simp(maxSteps:=9^9)only[↓VP,VQ,seval,hm,hfd]
  rw [ha,← hm,upd_self]
 ·rw [if_neg hin] at hfd
  have ha : addT l set = l ++ [set] := if_neg hin
  simp only [seenL]
  (refine acall_intro (E := envC (modeAt [9,12] []) false []) (envCOk _ _ _) rfl Tryz.func98 rfl Tryz.call98 (by kernel_rfl) (by simp [Tryz.ntmps98]) ?_; simp only [Tryz.f98];  simp(maxSteps:=9^9)only[↓VP,VQ,seval])
  simp(maxSteps:=9^9)only[↓VP,VQ,seval,hm,hfd]
  repeat'(first|intro _|apply And.intro)
  all_goals try first|omega|(simp only[LL];omega)|exact nlC (by decide) _|exact nbC rfl
  refine aloop (envCOk _ _ _) (fun k : Nat => ⟨[(0,.v (.eptr (seenL v b))),(1,.v (.int .i64 set)),(7,.v (.int .i64 (baseTo v set k))),(28,.v (.slice 4 (v.copies.map vcopyA))),(29,.v (.int .i64 v.copies.length)),(30,.v (.int .i64 k))],[],[],m⟩)
   (fun k => k ≤ v.copies.length) (fun k => v.copies.length - k) 0 (fun _ => rfl) (by simp) (by simp only [seenL]; (simp only [FE,↓FP,seval]); try simp [baseTo]) ?_
  intro k hk
  simp only [seenL]
  have hb := baseTo_lt v hv set k hk
  have hle : set / 2 ^ k ≤ set := Nat.div_le_self _ _
  have hfx : k < v.copies.length → (v.copies[k]!).facts < 2 ^ 62 := fun h => (may_lt v hv h).2.2
  simp(maxSteps:=9^9)only[↓VP,VQ,seval,vcopyA,hm,hfd]
  repeat'(first|intro _|apply And.intro)
  all_goals try first|omega|(simp only[LL];omega)|exact nlC (by decide) _|exact nbC rfl
  ·have h1 : set.testBit k = true := by assumption
   refine ⟨k + 1,by dsimp only; omega,by dsimp only; omega,?_⟩
   (simp only [FE,↓FP,seval])
   rw [show baseTo v set (k + 1) = _ from rfl,baseTo,if_pos h1]
   simp
  ·have h1 : ¬ set.testBit k = true := by assumption
   refine ⟨k + 1,by dsimp only; omega,by dsimp only; omega,?_⟩
   (simp only [FE,↓FP,seval])
   rw [show baseTo v set (k + 1) = _ from rfl,baseTo,if_neg h1]
   simp
  have hke : k = v.copies.length := by omega
  subst hke
  have hb0 := baseTo_lt v hv set v.copies.length (Nat.le_refl _)
  refine aloop (envCOk _ _ _) (fun q : Nat × Nat × Bool => ⟨[(0,.v (.eptr (seenL v b))),(1,.v (.int .i64 set)),(7,.v (.int .i64 q.2.1)),(10,.v (.bool q.2.2))],[],[],m⟩)
   (fun q => q.2.1 = iterN (passL v) q.1 (baseTo v set v.copies.length) ∧ (q.2.2 = false → passL v q.2.1 = q.2.1)) (fun q => 2 * (v.facts - card q.2.1 v.facts) + if q.2.2 = true then 1 else 0)
   (0,baseTo v set v.copies.length,true) (fun _ => rfl) ⟨rfl,fun h => by cases h⟩ (by simp only [seenL]; (simp only [FE,↓FP,seval])) ?_
  rintro ⟨n,s,more⟩ ⟨hs,hmore⟩
  dsimp only at hs hmore
  have hslt : s < 2 ^ v.facts := by rw [hs]; exact iterN_lt v hv hb0 n
  simp only [seenL]
  cases more with
  | false =>
   have hfix := hmore rfl
   have hts : s = tellS v set := by rw [hs]; exact tellS_of v hv set n (by rw [← hs]; exact hfix)
   simp(maxSteps:=9^9)only[↓VP,VQ,seval,vcopyA,hm,hfd]
   repeat'(first|intro _|apply And.intro)
   ·rw [hts]
   ·rw [ha,toldKv_add,← hts]
  | true =>
   simp(maxSteps:=9^9)only[↓VP,VQ,seval]
   repeat'(first|intro _|apply And.intro)
   all_goals try first|omega|(simp only[LL];omega)|exact nlC (by decide) _|exact nbC rfl
   refine aloop (envCOk _ _ _) (fun i : Nat => ⟨[(0,.v (.eptr (seenL v b))),(1,.v (.int .i64 set)),(7,.v (.int .i64 (passTo v s i))),(10,.v (.bool (decide (passTo v s i ≠ s)))),(50,.v (.slice 2 (v.rules.map vruleA))),(51,.v (.int .i64 v.rules.length)),(52,.v (.int .i64 i))],[],[],m⟩)
    (fun i => i ≤ v.rules.length) (fun i => v.rules.length - i) 0 (fun _ => rfl) (by simp) (by simp only [seenL]; (simp only [FE,↓FP,seval]); try simp [passTo]) ?_
   intro i hi
   have hplt := passTo_lt v hv hslt i hi
   have hpl2 : passTo v s i / 2 ^ (v.rules[i]!).then_ ≤ passTo v s i := Nat.div_le_self _ _
   have hrl : i < v.rules.length → (v.rules[i]!).if_ < 2 ^ 6 ∧ (v.rules[i]!).then_ < 6 ∧ 2 ^ (v.rules[i]!).then_ ≤ 2 ^ 6 := fun h => by
    obtain ⟨_,r2,r3⟩ := hv.rule _ (List.getElem_mem h)
    rw [getD_any h]
    exact ⟨by omega,by omega,Nat.pow_le_pow_right (by decide) (by omega)⟩
   simp only [seenL]
   simp(maxSteps:=9^9)only[↓VP,VQ,seval,vruleA]
   repeat'(first|intro _|apply And.intro)
   all_goals try first|omega|(simp only[LL];omega)|exact nlC (by decide) _|exact nbC rfl
   ·have hlt : i < v.rules.length := by omega
    have h1 : (passTo v s i).testBit (v.rules[i]!).then_ = true := by assumption
    have e : passTo v s (i + 1) = passTo v s i := by
     rw [passTo_succ v s i hlt]; unfold addR; split
     ·exact or_bit_self h1
     ·rfl
    refine ⟨i + 1,by dsimp only; omega,by dsimp only; omega,?_⟩
    (simp only [FE,↓FP,seval])
    rw [e]
    simp
   ·have hlt : i < v.rules.length := by omega
    have h1 : (passTo v s i).testBit (v.rules[i]!).then_ = false := by (first | assumption | (rw [← Bool.not_eq_false]; assumption) | (rw [← Bool.not_eq_true]; assumption) | omega)
    have h2 : subS (v.rules[i]!).if_ (passTo v s i) = true := by unfold subS; rw [decide_eq_true_eq]; omega
    have e : passTo v s (i + 1) = passTo v s i ||| 2 ^ (v.rules[i]!).then_ := by
     rw [passTo_succ v s i hlt]; unfold addR; rw [if_pos h2]
    have hne : passTo v s (i + 1) ≠ s := by
     intro hh
     apply or_bit_ne h1
     rw [← e]
     refine sub_antisymm (fun j hj => ?_) (fun j hj => ?_)
     ·rw [hh] at hj; exact sub_passTo v s i j hj
     ·rw [e,Nat.testBit_or,hj]; rfl
    refine ⟨i + 1,by dsimp only; omega,by dsimp only; omega,?_⟩
    (simp only [FE,↓FP,seval])
    rw [decide_eq_true hne,e]
    simp
   ·have hlt : i < v.rules.length := by omega
    have h2 : ¬ subS (v.rules[i]!).if_ (passTo v s i) = true := by unfold subS; rw [decide_eq_true_eq]; omega
    have e : passTo v s (i + 1) = passTo v s i := by
     rw [passTo_succ v s i hlt]; unfold addR; rw [if_neg h2]
    refine ⟨i + 1,by dsimp only; omega,by dsimp only; omega,?_⟩
    (simp only [FE,↓FP,seval])
    rw [e]
    simp
   ·have hie : i = v.rules.length := by omega
    have hpe : passTo v s i = passL v s := by rw [hie]; rfl
    refine ⟨(n + 1,passL v s,decide (passL v s ≠ s)),⟨by show passL v s = passL v _; rw [← hs],fun h => ?_⟩,?_,?_⟩
    ·dsimp only at h ⊢
     rw [decide_eq_false_iff_not] at h
     have h' : passL v s = s := Classical.not_not.1 h
     rw [h',h']
    ·dsimp only
     by_cases h : passL v s = s
     ·rw [h]; simp
     ·have h1 := card_pass v hv hslt h
      have h2 := card_le (passL v s) v.facts
      simp [h]; omega
    ·(simp only [FE,↓FP,seval])
     rw [hpe]
     trivial
def combos (t : List Nat) : Nat → Nat → Nat → List Nat
 | 0,_,set => [set]
 | left + 1,from_,set => (List.range' from_ (t.length - left - from_)).flatMap fun i => combos t left (i + 1) (set ||| 2 ^ t[i]!)
def someL (t : List Nat) : List Nat := (List.range (t.length + 1)).flatMap fun many => combos t many 0 0
def Keeps (S : Nat → Prop) (m m' : Mem) : Prop := ∀ b x,¬ S b → m b = some x → m' b = some x
theorem Keeps.refl (S : Nat → Prop) (m : Mem) : Keeps S m m := fun _ _ _ h => h
theorem Keeps.trans {S : Nat → Prop} {m m' m'' : Mem} (h : Keeps S m m') (k : Keeps S m' m'') : Keeps S m m'' := fun b x hb hx => k b x hb (h b x hb hx)
structure YOk (l : Nat) (S : Nat → Prop) (J : List Nat → Mem → Prop) (F : Mem → Prop) : Prop where
 y : ∀ (x : Nat) rest m,J (x :: rest) m → AYield Tryz.prog l [.int .i64 x] m fun r m' => Keeps S m m' ∧ ((r = .bool true ∧ J rest m') ∨ (r = .bool false ∧ F m'))
def natsA (t : List Nat) : AV := .slice 1 (t.map fun (x : Nat) => AV.int .i64 x)
theorem combos_lt (t : List Nat) (ht : ∀ x ∈ t,x < 60) : ∀ (left from_ set : Nat),set < 2 ^ 60 → ∀ s ∈ combos t left from_ set,s < 2 ^ 60
 | 0,_,set,h,s,hs => by simp [combos] at hs; omega
 | left + 1,from_,set,h,s,hs => by
  simp only [combos,List.mem_flatMap,List.mem_range'_1] at hs
  obtain ⟨i,hi,hs⟩ := hs
  refine combos_lt t ht left (i + 1) _ (Nat.or_lt_two_pow h ?_) s hs
  have hlt : i < t.length := by omega
  rw [getD_any hlt]
  exact Nat.pow_lt_pow_right (by decide) (ht _ (List.getElem_mem hlt))
theorem next_c (t : List Nat) (ht : ∀ x ∈ t,x < 60) (htl : t.length ≤ 1000) {l : Nat} {S : Nat → Prop} {J : List Nat → Mem → Prop} {F : Mem → Prop} (hy : YOk l S J F) (c : Nat) (hc : ¬ S c) :
  ∀ (left from_ set : Nat) (rest : List Nat) (m : Mem),left ≤ t.length → from_ ≤ t.length → set < 2 ^ 60 → J (combos t left from_ set ++ rest) m →
   m c = some (.cells [.fn (.func 153) [] [.eptr [.fn (.yield l) [] []],.eptr [natsA t],.ptr c 0]]) →
   ACall Tryz.prog 153 [.int .i64 from_,.int .i64 left,.int .i64 set,.eptr [.fn (.yield l) [] []],.eptr [natsA t],.ptr c 0] m fun r m' => Keeps S m m' ∧ ((r = .bool true ∧ J rest m') ∨ (r = .bool false ∧ F m'))
 | 0,from_,set,rest,m,hl,hf,hs,hJ,hm => by
  simp only [natsA]
  (refine acall_intro (E := env fun _ => .imm) (envOk _) rfl Tryz.func153 rfl Tryz.call153 (by kernel_rfl) (by simp [Tryz.ntmps153]) ?_; simp only [Tryz.f153];  simp(maxSteps:=9^9)only[↓VP,VQ,seval])
  refine AYield.mono (hy.y set rest m hJ) fun r m' h => ?_
  simp(maxSteps:=9^9)only[↓VP,VQ,seval]
  exact h
 | left + 1,from_,set,rest,m,hl,hf,hs,hJ,hm => by
  have ih := fun f s r m' h1 h2 h3 h4 => next_c t ht htl hy c hc left f s r m' (by omega) h1 h2 h3 h4
  simp only [natsA] at ih hm ⊢
  (refine acall_intro (E := env fun _ => .imm) (envOk _) rfl Tryz.func153 rfl Tryz.call153 (by kernel_rfl) (by simp [Tryz.ntmps153]) ?_; simp only [Tryz.f153];  simp(maxSteps:=9^9)only[↓VP,VQ,seval])
  repeat'(first|intro _|apply And.intro)
  all_goals try first|omega|(simp only[LL];omega)|exact nlC (by decide) _|exact nbC rfl
  have hcl : ((left + 1 : Nat) : Int) - 1 = (left : Int) := by omega
  refine aloop (envOk _) (fun q : Nat × Mem => ⟨[(1,.v (.int .i64 ((left + 1 : Nat) : Int))),(2,.v (.int .i64 set)),(3,.v (.eptr [.fn (.yield l) [] []])),(4,.v (.eptr [.slice 1 (t.map fun (x : Nat) => AV.int .i64 x)])),(5,.v (.ptr c 0)),(10,.v (.int .i64 q.1))],[],[],q.2⟩)
   (fun q => q.1 ≤ t.length ∧ J ((List.range' q.1 (t.length - left - q.1)).flatMap (fun i => combos t left (i + 1) (set ||| 2 ^ t[i]!)) ++ rest) q.2 ∧ Keeps S m q.2 ∧
    q.2 c = some (.cells [.fn (.func 153) [] [.eptr [.fn (.yield l) [] []],.eptr [.slice 1 (t.map fun (x : Nat) => AV.int .i64 x)],.ptr c 0]]))
   (fun q => t.length - q.1) (from_,m) (fun _ => rfl) ⟨hf,hJ,Keeps.refl _ _,hm⟩ (by (simp only [FE,↓FP,seval]); try simp) ?_
  rintro ⟨i,m1⟩ ⟨hi,hJ1,hk1,hm1⟩
  dsimp only at hi hJ1 hk1 hm1
  simp(maxSteps:=9^9)only[↓VP,VQ,seval,hm1]
  repeat'(first|intro _|apply And.intro)
  all_goals try first|omega|(simp only[LL];omega)|exact nlC (by decide) _|exact nbC rfl
  ·have hlt : i < t.length - left := by omega
   have e1 : List.range' i (t.length - left - i) = i :: List.range' (i + 1) (t.length - left - (i + 1)) := by
    rw [show t.length - left - i = (t.length - left - (i + 1)) + 1 by omega,List.range'_succ]
   rw [e1,List.flatMap_cons,List.append_assoc] at hJ1
   have hti : t[i]! < 60 := by rw [getD_any (by omega)]; exact ht _ (List.getElem_mem _)
   have hp : 2 ^ t[i]! < 2 ^ 60 := Nat.pow_lt_pow_right (by decide) hti
   have hcall := ih (i + 1) (set ||| 2 ^ t[i]!) _ m1 (by omega) (Nat.or_lt_two_pow hs hp) hJ1 hm1
   rw [show ((i + 1 : Nat) : Int) = (i : Int) + 1 by omega] at hcall
   refine adraw (envOk _) mixed [⟨false,false,0⟩,⟨true,false,0⟩,⟨true,false,0⟩,⟨true,false,0⟩,⟨true,false,0⟩,⟨true,false,0⟩,⟨true,false,0⟩,⟨true,false,0⟩,⟨true,false,0⟩,⟨true,false,0⟩,⟨true,false,0⟩,⟨true,false,0⟩,⟨false,false,2⟩,⟨false,false,0⟩] (by kernel_rfl) ?_
   simp(maxSteps:=9^9)only[↓VP,VQ,seval,hm1,hcl]
   repeat'(first|intro _|apply And.intro)
   all_goals try first|omega|(simp only[LL];omega)|exact nlC (by decide) _|exact nbC rfl
   refine ACall.told hcall ?_
   rintro r m2 ⟨hk2,⟨rfl,hJ2⟩ | ⟨rfl,hF⟩⟩
   ·simp(maxSteps:=9^9)only[↓VP,VQ,seval]
    repeat'(first|intro _|apply And.intro)
    all_goals try first|omega|(simp only[LL];omega)|exact nlC (by decide) _|exact nbC rfl
    refine ⟨(i + 1,m2),⟨by dsimp only; omega,hJ2,hk1.trans hk2,hk2 _ _ hc hm1⟩,by dsimp only; omega,?_⟩
    (simp only [FE,↓FP,seval])
    simp
   ·simp(maxSteps:=9^9)only[↓VP,VQ,seval]
    exact ⟨hk1.trans hk2,.inr hF⟩
  ·rename_i b x h1 h2; exact hk1 b x h1 h2
  ·have e1 : t.length - left - i = 0 := by omega
   rw [e1] at hJ1
   exact .inl hJ1
theorem some1_c (t : List Nat) (ht : ∀ x ∈ t,x < 60) (htl : t.length ≤ 1000) {l : Nat} {S : Nat → Prop} {J : List Nat → Mem → Prop} {F : Mem → Prop} (hy : YOk l S J F) (m : Mem)
  (hS : ∀ b,S b → m b ≠ none) (hJ : J (someL t) m) (hst : ∀ rest m b x,J rest m → m b = none → J rest (upd m b (some x))) :
  ACall Tryz.prog 152 [.fn (.yield l) [] [],.eptr [natsA t]] m fun _ m' => J [] m' ∨ F m' := by
 simp only [natsA]
 (refine acall_intro (E := envC (modeAt [] [3]) false []) (envCOk _ _ _) rfl Tryz.func152 rfl Tryz.call152 (by kernel_rfl) (by simp [Tryz.ntmps152]) ?_; simp only [Tryz.f152];  simp(maxSteps:=9^9)only[↓VP,VQ,seval])
 intro c hmc
 repeat'(first|intro _|apply And.intro)
 all_goals try first|omega|(simp only[LL];omega)|exact nlC (by decide) _|exact nbC rfl
 have hcS : ¬ S c := fun h => hS c h hmc
 refine aloop (envCOk _ _ _) (fun q : Nat × Mem => ⟨[(1,.v (.eptr [.slice 1 (t.map fun (x : Nat) => AV.int .i64 x)])),(3,.v (.ptr c 0)),(8,.v (.int .i64 ((t.length : Int) + 1))),(9,.v (.int .i64 q.1))],[],[],q.2⟩)
  (fun q => q.1 ≤ t.length + 1 ∧ J ((List.range' q.1 (t.length + 1 - q.1)).flatMap fun many => combos t many 0 0) q.2 ∧
   q.2 c = some (.cells [.fn (.func 153) [] [.eptr [.fn (.yield l) [] []],.eptr [.slice 1 (t.map fun (x : Nat) => AV.int .i64 x)],.ptr c 0]]))
  (fun q => t.length + 1 - q.1) (0,upd m c (some (.cells [.fn (.func 153) [] [.eptr [.fn (.yield l) [] []],.eptr [.slice 1 (t.map fun (x : Nat) => AV.int .i64 x)],.ptr c 0]]))) (fun _ => rfl) ?_ ?_ ?_
 ·refine ⟨by simp,?_,upd_same _ _ _⟩
  have := hst _ _ c (.cells [.fn (.func 153) [] [.eptr [.fn (.yield l) [] []],.eptr [.slice 1 (t.map fun (x : Nat) => AV.int .i64 x)],.ptr c 0]]) hJ hmc
  simpa [someL,List.range_eq_range'] using this
 ·(simp only [FE,↓FP,seval])
  rw [upd_upd]
  simp
 ·rintro ⟨i,m1⟩ ⟨hi,hJ1,hm1⟩
  dsimp only at hi hJ1 hm1
  simp(maxSteps:=9^9)only[↓VP,VQ,seval,hm1]
  repeat'(first|intro _|apply And.intro)
  all_goals try first|omega|(simp only[LL];omega)|exact nlC (by decide) _|exact nbC rfl
  ·have hlt : i < t.length + 1 := by omega
   rw [show t.length + 1 - i = (t.length + 1 - (i + 1)) + 1 by omega,List.range'_succ,List.flatMap_cons] at hJ1
   have hcall := next_c t ht htl hy c hcS i 0 0 _ m1 (by omega) (by omega) (by decide) hJ1 (by simpa only [natsA] using hm1)
   simp only [natsA,Int.natCast_zero] at hcall
   refine ACall.told hcall ?_
   rintro r m2 ⟨hk2,⟨rfl,hJ2⟩ | ⟨rfl,hF⟩⟩
   ·simp(maxSteps:=9^9)only[↓VP,VQ,seval]
    repeat'(first|intro _|apply And.intro)
    all_goals try first|omega|(simp only[LL];omega)|exact nlC (by decide) _|exact nbC rfl
    refine ⟨(i + 1,m2),⟨by dsimp only; omega,hJ2,hk2 _ _ hcS hm1⟩,by dsimp only; omega,?_⟩
    (simp only [FE,↓FP,seval])
    simp
   ·simp(maxSteps:=9^9)only[↓VP,VQ,seval]
    exact .inr hF
  ·rw [show t.length + 1 - i = 0 by omega] at hJ1
   exact .inl hJ1
theorem some_c (t : List Nat) : PCall Tryz.prog 113 [natsA t] (.fn (.func 152) [] [.eptr [natsA t]]) := by
 intro m
 simp only [natsA]
 (refine acall_intro (E := env fun _ => .imm) (envOk _) rfl Tryz.func113 rfl Tryz.call113 (by kernel_rfl) (by simp [Tryz.ntmps113]) ?_; simp only [Tryz.f113];  simp(maxSteps:=9^9)only[↓VP,VQ,seval])
 repeat'(first|intro _|apply And.intro)
structure WOk (g : FuncId) (caps : List AV) (p : Nat → Bool) (S : Nat → Prop) (M : Mem → Prop) : Prop where
 w : ∀ (x : Nat) m,x < 2 ^ 60 → M m → ACall Tryz.prog g ([.int .i64 x] ++ caps) m fun r m' => r = .bool (p x) ∧ M m' ∧ Keeps S m m'
 up : ∀ m b x,M m → m b = none → M (upd m b (some x))
 ext : ∀ m m',M m → (∀ b,S b → m' b = m b) → M m'
 dom : ∀ m b,M m → S b → m b ≠ none
def firstL (t : List Nat) (p : Nat → Bool) : List Int × Bool := match (someL t).find? p with
 | some x => (listS x,true)
 | none => ([],false)
def firstJ (t : List Nat) (p : Nat → Bool) (S : Nat → Prop) (M : Mem → Prop) (m : Mem) (l b4 b5 : Nat) (R : LoopA) (rest : List Nat) (m1 : Mem) : Prop :=
 (∃ pre,someL t = pre ++ rest ∧ ∀ x ∈ pre,p x = false) ∧ M m1 ∧ m1 l = some (.loop .ready none R) ∧ m1 b4 = some (.cells [.slice 1 []]) ∧ m1 b5 = some (.cells [.bool false]) ∧ Keeps S m m1
def firstF (t : List Nat) (p : Nat → Bool) (S : Nat → Prop) (M : Mem → Prop) (m : Mem) (l b4 b5 : Nat) (R : LoopA) (m1 : Mem) : Prop :=
 ∃ x,(someL t).find? p = some x ∧ M m1 ∧ m1 l = some (.loop .done (some .ret) R) ∧ m1 b4 = some (.cells [ints (listS x)]) ∧ m1 b5 = some (.cells [.bool true]) ∧ Keeps S m m1
theorem someL_lt (t : List Nat) (ht : ∀ x ∈ t,x < 60) : ∀ s ∈ someL t,s < 2 ^ 60 := by
 intro s hs
 simp only [someL,List.mem_flatMap] at hs
 obtain ⟨many,_,hs⟩ := hs
 exact combos_lt t ht many 0 0 (by decide) s hs
theorem ne_of_some {m : Mem} {b l : Nat} {y : Box} (h : m b = some y) (h0 : m l = none) : b ≠ l := by
 rintro rfl; rw [h0] at h; cases h
theorem find_pre {p : Nat → Bool} {l pre rest : List Nat} {x : Nat} (h : l = pre ++ x :: rest) (hp : ∀ y ∈ pre,p y = false) (hx : p x = true) : l.find? p = some x := by
 subst h
 rw [List.find?_append]
 have : pre.find? p = none := by rw [List.find?_eq_none]; intro y hy; rw [hp y hy]; simp
 rw [this]; simp [hx]
theorem first_c (t : List Nat) (ht : ∀ x ∈ t,x < 60) (htl : t.length ≤ 1000) {g : FuncId} {caps : List AV} {p : Nat → Bool} {S : Nat → Prop} {M : Mem → Prop} (hw : WOk g caps p S M) (m : Mem) (hM : M m) :
  ACall Tryz.prog 59 [natsA t,.agg [.fn (.func g) [] caps]] m fun r m' => r = .tuple [ints (firstL t p).1,.bool (firstL t p).2] ∧ M m' ∧ Keeps S m m' := by
 have hsome := some_c t
 simp only [natsA] at hsome ⊢
 (refine acall_intro (E := envC (modeAt [] [4,5]) false []) (envCOk _ _ _) rfl Tryz.func59 rfl Tryz.call59 (by kernel_rfl) (by simp [Tryz.ntmps59]) ?_; simp only [Tryz.f59];  simp(maxSteps:=9^9)only[↓VP,VQ,seval])
 intro b4 hb4 b5 hb5
 (refine ACall.pure (hsome) ?_; try simp(maxSteps:=9^9)only[↓VP,VQ,seval])
 have h54 : b5 ≠ b4 := by rintro rfl; simp at hb5
 rw [if_neg h54] at hb5
 refine arange rfl (f := 152) (first := []) (caps := [.eptr [.slice 1 (t.map fun (x : Nat) => AV.int .i64 x)]]) (by simp(maxSteps:=9^9)only[↓VP,VQ,seval]) ?_
 intro l hl
 have hl5 : l ≠ b5 := by rintro rfl; simp [upd] at hl
 have hl4 : l ≠ b4 := by rintro rfl; simp [upd,h54.symm] at hl
 have hl0 : m l = none := by simpa [upd,hl5,hl4] using hl
 have hS4 : ¬ S b4 := fun h => hw.dom m b4 hM h hb4
 have hS5 : ¬ S b5 := fun h => hw.dom m b5 hM h hb5
 have hSl : ¬ S l := fun h => hw.dom m l hM h hl0
 generalize hR : LoopA.mk _ _ _ _ _ = R
 have hyok : YOk l (fun b => b = l ∨ b = b4 ∨ b = b5 ∨ S b) (firstJ t p S M m l b4 b5 R) (firstF t p S M m l b4 b5 R) := by
  refine ⟨fun x rest m1 hJ => ?_⟩
  obtain ⟨⟨pre,hpre,hpp⟩,j2,j3,j4,j5,j6⟩ := hJ
  have hx60 : x < 2 ^ 60 := someL_lt t ht x (by rw [hpre]; simp)
  subst hR
  refine ayield (E := envC (modeAt [] [4,5]) true []) (envCOk _ _ _) rfl j3 rfl (by rfl) (by rfl) (by rfl) ?_
  simp(maxSteps:=9^9)only[↓VP,VQ,seval,j3]
  have hne : ∀ b,S b → b ≠ l ∧ b ≠ b4 ∧ b ≠ b5 := fun b hb => ⟨fun e => hSl (e ▸ hb),fun e => hS4 (e ▸ hb),fun e => hS5 (e ▸ hb)⟩
  refine ACall.told (hw.w x _ hx60 (hw.ext m1 _ j2 fun b hb => upd_ne _ _ (hne b hb).1)) ?_
  rintro r m2 ⟨rfl,hM2,hk2⟩
  have q3 := hk2 l _ hSl (upd_same _ _ _)
  have q4 := hk2 b4 _ hS4 ((upd_ne _ _ hl4.symm).trans j4)
  have q5 := hk2 b5 _ hS5 ((upd_ne _ _ hl5.symm).trans j5)
  have hkeep : ∀ b y,¬ (b = l ∨ b = b4 ∨ b = b5 ∨ S b) → m1 b = some y → m2 b = some y := fun b y hb hy => by
   simp only [not_or] at hb
   exact hk2 b y hb.2.2.2 ((upd_ne _ _ hb.1).trans hy)
  have hkm : Keeps S m m2 := fun b y hb hy => by
   have h1 := j6 b y hb hy
   refine hk2 b y hb ((upd_ne _ _ ?_).trans h1)
   exact ne_of_some hy hl0
  have hkn : ∀ b y,m b = some y → b ≠ l ∧ b ≠ b4 ∧ b ≠ b5 := fun b y hy => ⟨ne_of_some hy hl0,ne_of_some hy hb4,ne_of_some hy hb5⟩
  rcases Bool.eq_false_or_eq_true (p x) with hpx | hpx
  ·simp(maxSteps:=9^9)only[↓VP,VQ,seval,hpx]
   (refine ACall.pure (list_c x (Nat.lt_trans hx60 (by decide))) ?_; try simp(maxSteps:=9^9)only[↓VP,VQ,seval])
   simp(maxSteps:=9^9)only[↓VP,VQ,seval,q3,q4,q5,h54,hl4,hl5]
   refine ⟨fun b y hb hy => ?_,.inr ⟨x,find_pre hpre hpp hpx,?_,?_,?_,?_,fun b y hb hy => ?_⟩⟩
   ·have hb' := hb
    simp only [not_or] at hb
    rw [upd_ne _ _ hb.1,upd_ne _ _ hb.2.2.1,upd_ne _ _ hb.2.1]
    exact hkeep b y hb' hy
   ·refine hw.ext m2 _ hM2 fun b hb => ?_
    obtain ⟨n1,n2,n3⟩ := hne b hb
    rw [upd_ne _ _ n1,upd_ne _ _ n3,upd_ne _ _ n2]
   ·exact upd_same _ _ _
   ·rw [upd_ne _ _ hl4.symm,upd_ne _ _ h54.symm,upd_same]; rfl
   ·rw [upd_ne _ _ hl5.symm,upd_same]
   ·obtain ⟨n1,n2,n3⟩ := hkn b y hy
    rw [upd_ne _ _ n1,upd_ne _ _ n3,upd_ne _ _ n2]
    exact hkm b y hb hy
  ·simp(maxSteps:=9^9)only[↓VP,VQ,seval,hpx,q3]
   refine ⟨fun b y hb hy => ?_,.inl ⟨⟨pre ++ [x],by rw [hpre]; simp,fun y hy => ?_⟩,?_,upd_same _ _ _,?_,?_,fun b y hb hy => ?_⟩⟩
   ·have hb' := hb
    simp only [not_or] at hb
    rw [upd_ne _ _ hb.1]
    exact hkeep b y hb' hy
   ·rcases List.mem_append.1 hy with hy | hy
    ·exact hpp y hy
    ·rw [List.mem_singleton.1 hy]; exact hpx
   ·refine hw.ext m2 _ hM2 fun b hb => ?_
    rw [upd_ne _ _ (hne b hb).1]
   ·rw [upd_ne _ _ hl4.symm]; exact q4
   ·rw [upd_ne _ _ hl5.symm]; exact q5
   ·rw [upd_ne _ _ (hkn b y hy).1]
    exact hkm b y hb hy
 have hne : ∀ b,S b → b ≠ l ∧ b ≠ b4 ∧ b ≠ b5 := fun b hb => ⟨fun e => hSl (e ▸ hb),fun e => hS4 (e ▸ hb),fun e => hS5 (e ▸ hb)⟩
 have hdom : ∀ b y,m b = some y → b ≠ l ∧ b ≠ b4 ∧ b ≠ b5 := fun b y hy => ⟨ne_of_some hy hl0,ne_of_some hy hb4,ne_of_some hy hb5⟩
 have hJ0 : firstJ t p S M m l b4 b5 R (someL t) (upd (upd (upd m b4 (some (.cells [.slice 1 []]))) b5 (some (.cells [.bool false]))) l (some (.loop .ready none R))) := by
  refine ⟨⟨[],rfl,by simp⟩,?_,upd_same _ _ _,?_,?_,fun b y hb hy => ?_⟩
  ·refine hw.up _ _ _ (hw.up _ _ _ (hw.up _ _ _ hM hb4) ?_) ?_
   ·rw [upd_ne _ _ h54]; exact hb5
   ·rw [upd_ne _ _ hl5,upd_ne _ _ hl4]; exact hl0
  ·rw [upd_ne _ _ hl4.symm,upd_ne _ _ h54.symm,upd_same]
  ·rw [upd_ne _ _ hl5.symm,upd_same]
  ·obtain ⟨n1,n2,n3⟩ := hdom b y hy
   rw [upd_ne _ _ n1,upd_ne _ _ n3,upd_ne _ _ n2]; exact hy
 have hall := some1_c t ht htl hyok _ (fun b hb => ?_) hJ0 (fun rest m1 b y hJ hb => ?_)
 ·simp only [natsA] at hall
  refine ACall.mono hall fun r m' h => ?_
  clear hall hJ0 hyok hl
  rcases h with ⟨⟨pre,hpre,hpp⟩,j2,j3,j4,j5,j6⟩ | ⟨x,hx,j2,j3,j4,j5,j6⟩
  ·have hfl : firstL t p = ([],false) := by
    unfold firstL
    rw [show (someL t).find? p = none by rw [List.find?_eq_none]; intro y hy; rw [hpre,List.append_nil] at hy; rw [hpp y hy]; simp]
   simp(maxSteps:=9^9)only[↓VP,VQ,seval,j3,j4,j5,h54,h54.symm,hl4.symm,hl5.symm]
   refine ⟨by rw [hfl]; rfl,hw.ext m' _ j2 fun b hb => ?_,fun b y hb hy => ?_⟩
   ·obtain ⟨n1,n2,n3⟩ := hne b hb
    rw [upd_ne _ _ n3,upd_ne _ _ n2,upd_ne _ _ n1]
   ·obtain ⟨n1,n2,n3⟩ := hdom b y hy
    rw [upd_ne _ _ n3,upd_ne _ _ n2,upd_ne _ _ n1]
    exact j6 b y hb hy
  ·have hfl : firstL t p = (listS x,true) := by
    unfold firstL; rw [hx]
   simp(maxSteps:=9^9)only[↓VP,VQ,seval,j3,j4,j5,h54,h54.symm,hl4.symm,hl5.symm]
   refine ⟨by rw [hfl],hw.ext m' _ j2 fun b hb => ?_,fun b y hb hy => ?_⟩
   ·rw [upd_ne _ _ (hne b hb).1]
   ·rw [upd_ne _ _ (hdom b y hy).1]
    exact j6 b y hb hy
 ·rcases hb with rfl | rfl | rfl | hb
  ·rw [upd_same]; simp
  ·rw [upd_ne _ _ hl4.symm,upd_ne _ _ h54.symm,upd_same]; simp
  ·rw [upd_ne _ _ hl5.symm,upd_same]; simp
  ·obtain ⟨n1,n2,n3⟩ := hne b hb
   rw [upd_ne _ _ n1,upd_ne _ _ n3,upd_ne _ _ n2]; exact hw.dom m b hM hb
 ·obtain ⟨j1,j2,j3,j4,j5,j6⟩ := hJ
  exact ⟨j1,hw.up _ _ _ j2 hb,by rw [upd_ne _ _ (ne_of_some j3 hb)]; exact j3,by rw [upd_ne _ _ (ne_of_some j4 hb)]; exact j4,by rw [upd_ne _ _ (ne_of_some j5 hb)]; exact j5,
   fun c z hc hz => by
    have := j6 c z hc hz
    rw [upd_ne _ _ (ne_of_some this hb)]; exact this⟩
theorem wok_pure {g : FuncId} {caps : List AV} {p : Nat → Bool} (h : ∀ x,x < 2 ^ 60 → PCall Tryz.prog g ([.int .i64 (x : Nat)] ++ caps) (.bool (p x))) : WOk g caps p (fun _ => False) (fun _ => True) :=
 ⟨fun x m hx _ => (h x hx m).mono fun _ _ ⟨h1,h2⟩ => ⟨h1,trivial,by rw [h2]; exact Keeps.refl _ _⟩,fun _ _ _ _ _ => trivial,fun _ _ _ _ => trivial,fun _ _ _ h => h.elim⟩
def ToldM (v : VChest) (b : Nat) (m : Mem) : Prop := ∃ l,m b = some (.map (toldKv v l))
theorem wok_told {g : FuncId} {caps : List AV} {p : Nat → Bool} {v : VChest} {b : Nat}
  (h : ∀ (x : Nat) m l,x < 2 ^ 60 → m b = some (.map (toldKv v l)) → ACall Tryz.prog g ([.int .i64 x] ++ caps) m fun r m' => r = .bool (p x) ∧ ∃ l',m' = upd m b (some (.map (toldKv v l')))) :
  WOk g caps p (fun c => c = b) (ToldM v b) := by
 refine ⟨fun x m hx ⟨l,hl⟩ => (h x m l hx hl).mono fun r m' ⟨h1,l',h2⟩ => ⟨h1,⟨l',by rw [h2,upd_same]⟩,fun c y hc hy => ?_⟩,fun m c x ⟨l,hl⟩ hc => ⟨l,?_⟩,fun m m' ⟨l,hl⟩ he => ⟨l,by rw [he b rfl]; exact hl⟩,fun m c ⟨l,hl⟩ hc => ?_⟩
 ·rw [h2,upd_ne _ _ hc]; exact hy
 ·rw [upd_ne _ _ (ne_of_some hl hc)]; exact hl
 ·rw [hc,hl]; simp
theorem key2_c (v : VChest) (b p at_ set : Nat) (hv : VOk v) (hp : p < v.people.length) (ha : at_ < 6) (hs : set < 2 ^ 60) :
  PCall Tryz.prog 61 [.int .i64 set,.eptr [.eptr (seenL v b)],.eptr [.int .i64 p],.eptr [.int .i64 at_]] (.bool (decide (findS v p set = 2 ^ at_))) := by
 intro m
 have hf := find_c v b p set hv hp hs
 have h2 : 2 ^ at_ ≤ 2 ^ 6 := Nat.pow_le_pow_right (by decide) (by omega)
 (refine acall_intro (E := env fun _ => .imm) (envOk _) rfl Tryz.func61 rfl Tryz.call61 (by kernel_rfl) (by simp [Tryz.ntmps61]) ?_; simp only [Tryz.f61];  simp(maxSteps:=9^9)only[↓VP,VQ,seval])
 (refine adraw (by first | exact envOk _ | exact envCOk _ _ _) mixed [⟨false,false,0⟩,⟨false,false,0⟩,⟨false,false,0⟩,⟨false,false,0⟩,⟨false,false,0⟩,⟨false,false,0⟩,⟨false,false,0⟩,⟨false,false,0⟩] (by kernel_rfl) ?_; show vcOpsD _ _ _ (_ :: _) _ _)
 simp(maxSteps:=9^9)only[↓VP,VQ,seval]
 (refine ⟨_,.inl (hf),?_⟩; try simp(maxSteps:=9^9)only[↓VP,VQ,seval])
 repeat'(first|intro _|apply And.intro)
 all_goals try first|omega|(simp only[LL];omega)|exact nlC (by decide) _|exact nbC rfl
 rw [show decide ((findS v p set : Int) = ((2 ^ at_ : Nat) : Int)) = decide (findS v p set = 2 ^ at_) by rw [decide_eq_decide]; exact Int.ofNat_inj]
theorem tell_told {v : VChest} (hv : VOk v) {b set : Nat} (hs : set < 2 ^ 60) {l : List Nat} {m : Mem} (hm : m b = some (.map (toldKv v l))) {K : AV → Mem → Prop} (hk : K (.int .i64 (tellS v set)) (upd m b (some (.map (toldKv v (addT l set)))))) :
  VTold Tryz.prog 98 [.eptr (seenL v b),.int .i64 set] m K .mk := ⟨_,_,tell_c v hv b set hs l m hm,hk⟩
theorem tellS_small (v : VChest) (hv : VOk v) (set : Nat) : tellS v set < 2 ^ 6 :=
 Nat.lt_of_lt_of_le (tellS_lt v hv set) (Nat.pow_le_pow_right (by decide) (by have := hv.f; omega))
theorem why1_c (v : VChest) (b fact : Nat) (hv : VOk v) (hf : fact < 6) (set : Nat) (m : Mem) (l : List Nat) (hs : set < 2 ^ 60) (hm : m b = some (.map (toldKv v l))) :
  ACall Tryz.prog 99 [.int .i64 set,.eptr [.eptr (seenL v b)],.eptr [.int .i64 fact]] m fun r m' => r = .bool ((tellS v set).testBit fact) ∧ ∃ l',m' = upd m b (some (.map (toldKv v l'))) := by
 have hts := tellS_small v hv set
 have hle : tellS v set / 2 ^ fact ≤ tellS v set := Nat.div_le_self _ _
 (refine acall_intro (E := env fun _ => .imm) (envOk _) rfl Tryz.func99 rfl Tryz.call99 (by kernel_rfl) (by simp [Tryz.ntmps99]) ?_; simp only [Tryz.f99];  simp(maxSteps:=9^9)only[↓VP,VQ,seval])
 refine adraw (envOk _) mixed [⟨false,false,0⟩,⟨false,false,0⟩,⟨false,false,1⟩,⟨true,false,0⟩,⟨true,false,0⟩,⟨true,false,0⟩,⟨true,false,0⟩,⟨true,false,0⟩] (by kernel_rfl) ?_
 simp(maxSteps:=9^9)only[↓VP,VQ,seval]
 refine tell_told hv hs hm ?_
 simp(maxSteps:=9^9)only[↓VP,VQ,seval]
 repeat'(first|intro _|apply And.intro)
 all_goals try first|omega|(simp only[LL];omega)|exact nlC (by decide) _|exact nbC rfl
 all_goals first | rfl | exact ⟨_,rfl⟩ | simp
theorem lock1_c (v : VChest) (b fact all : Nat) (hv : VOk v) (hf : fact < 6) (hall : all < 2 ^ 60) (set : Nat) (m : Mem) (l : List Nat) (hs : set < 2 ^ 60) (hm : m b = some (.map (toldKv v l))) :
  ACall Tryz.prog 100 [.int .i64 set,.eptr [.eptr (seenL v b)],.eptr [.int .i64 all],.eptr [.int .i64 fact]] m fun r m' => r = .bool (!(tellS v (natAndNot all set)).testBit fact) ∧ ∃ l',m' = upd m b (some (.map (toldKv v l'))) := by
 have hts := tellS_small v hv (natAndNot all set)
 have hle : tellS v (natAndNot all set) / 2 ^ fact ≤ tellS v (natAndNot all set) := Nat.div_le_self _ _
 have hn : natAndNot all set < 2 ^ 60 := by
  unfold natAndNot
  exact Nat.xor_lt_two_pow hall (Nat.and_lt_two_pow _ hs)
 (refine acall_intro (E := env fun _ => .imm) (envOk _) rfl Tryz.func100 rfl Tryz.call100 (by kernel_rfl) (by simp [Tryz.ntmps100]) ?_; simp only [Tryz.f100];  simp(maxSteps:=9^9)only[↓VP,VQ,seval])
 refine adraw (envOk _) mixed [⟨false,false,0⟩,⟨true,false,0⟩,⟨true,false,0⟩,⟨false,false,0⟩,⟨false,false,1⟩,⟨true,false,0⟩,⟨true,false,0⟩,⟨true,false,0⟩,⟨true,false,0⟩,⟨true,false,0⟩] (by kernel_rfl) ?_
 simp(maxSteps:=9^9)only[↓VP,VQ,seval]
 repeat'(first|intro _|apply And.intro)
 all_goals try first|omega|(simp only[LL];omega)|exact nlC (by decide) _|exact nbC rfl
 refine tell_told hv hn hm ?_
 simp(maxSteps:=9^9)only[↓VP,VQ,seval]
 repeat'(first|intro _|apply And.intro)
 all_goals try first|omega|(simp only[LL];omega)|exact nlC (by decide) _|exact nbC rfl
 all_goals first | rfl | exact ⟨_,rfl⟩ | simp
theorem least1_c (v : VChest) (b all : Nat) (hv : VOk v) (hall : all < 2 ^ 60) (set : Nat) (m : Mem) (l : List Nat) (hs : set < 2 ^ 60) (hm : m b = some (.map (toldKv v l))) :
  ACall Tryz.prog 101 [.int .i64 set,.eptr [.eptr (seenL v b)],.eptr [.int .i64 all]] m fun r m' => r = .bool (decide (tellS v set = tellS v all)) ∧ ∃ l',m' = upd m b (some (.map (toldKv v l'))) := by
 (refine acall_intro (E := env fun _ => .imm) (envOk _) rfl Tryz.func101 rfl Tryz.call101 (by kernel_rfl) (by simp [Tryz.ntmps101]) ?_; simp only [Tryz.f101];  simp(maxSteps:=9^9)only[↓VP,VQ,seval])
 refine adraw (envOk _) mixed [⟨true,false,0⟩,⟨true,false,0⟩,⟨false,false,1⟩,⟨true,false,0⟩,⟨true,false,0⟩,⟨false,false,1⟩,⟨true,false,0⟩,⟨true,false,0⟩] (by kernel_rfl) ?_
 simp(maxSteps:=9^9)only[↓VP,VQ,seval]
 refine tell_told hv hs hm ?_
 simp(maxSteps:=9^9)only[↓VP,VQ,seval]
 refine tell_told hv hall (upd_same _ _ _) ?_
 simp(maxSteps:=9^9)only[↓VP,VQ,seval]
 repeat'(first|intro _|apply And.intro)
 ·rw [show decide ((tellS v set : Int) = (tellS v all : Int)) = decide (tellS v set = tellS v all) by rw [decide_eq_decide]; exact Int.ofNat_inj]
 ·exact ⟨_,upd_upd _ _ _ _⟩
def leastN (i : Nat) (l : List Int) : Nat := if i = 0 then 0 else (l[i - 1]!).toNat + 1
def stepL (below i : Nat) (l : List Int) : List (List Int) := (List.range' (leastN i l) (below - leastN i l)).map fun (n : Nat) => l ++ [(n : Int)]
def choicesL (below : Nat) : Nat → List (List Int)
 | 0 => [[]]
 | i + 1 => (choicesL below i).flatMap (stepL below i)
theorem choices_mem {below : Nat} : ∀ {i : Nat} {l : List Int},l ∈ choicesL below i → l.length = i ∧ ∀ x ∈ l,0 ≤ x ∧ x < (below : Int)
 | 0,l,h => by simp [choicesL] at h; subst h; simp
 | i + 1,l,h => by
  simp only [choicesL,List.mem_flatMap,stepL,List.mem_map,List.mem_range'_1] at h
  obtain ⟨l',h1,n,h2,rfl⟩ := h
  obtain ⟨h3,h4⟩ := choices_mem h1
  refine ⟨by simp [h3],fun x hx => ?_⟩
  rcases List.mem_append.1 hx with hx | hx
  ·exact h4 x hx
  ·rw [List.mem_singleton.1 hx]; omega
end Go.Proofs.YtdmejgfcaacdoaaGreat.Abs
