/- Lemmas for the statements of this seat (W20): they hold without conditions beyond those that each one states. -/
import Derived.Test.YtdmejgfcaacdoaaGreatW19
/- The statement ChestFinds: what its function does. -/
namespace Go.Proofs.YtdmejgfcaacdoaaGreat.Abs
set_option linter.unusedSimpArgs false
open Go Go.RowKit Go.Proofs
set_option maxHeartbeats 4000000
set_option maxRecDepth 100000
end Go.Proofs.YtdmejgfcaacdoaaGreat.Abs
/- Laws: lists that stand for sets; what functions hand back for a valid chest. -/
namespace Go.Proofs.YtdmejgfcaacdoaaGreat.Abs
set_option linter.unusedSimpArgs false
open Go Go.RowKit Go.Proofs
theorem listTo_congr {s t n : Nat} (h : ∀ i,i < n → s.testBit i = t.testBit i) : listTo s n = listTo t n := by
 unfold listTo
 congr 1
 exact List.filter_congr fun i hi => h i (List.mem_range.1 hi)
theorem raw_v (v : VChest) : v.raw.v = v := by
 obtain ⟨w,f,p,l,cs,rs⟩ := v
 simp only [VChest.raw,RChest.v,List.map_map,Int.toNat_natCast]
 have e1 : cs.map (RCopy.v ∘ VCopy.raw) = cs := by
  conv => rhs; rw [← List.map_id cs]
  refine List.map_congr_left fun x _ => ?_
  simp [RCopy.v,VCopy.raw]
 have e2 : rs.map (RRule.v ∘ VRule.raw) = rs := by
  conv => rhs; rw [← List.map_id rs]
  refine List.map_congr_left fun x _ => ?_
  simp [RRule.v,VRule.raw]
 rw [e1,e2]
section
variable {v : VChest}
theorem check_ok (hv : VOk v) : (checkR v.raw).2.2 = 0 := by rw [vok_check hv]
theorem find_v (hv : VOk v) {p : Nat} (hp : p < v.people.length) {l : List Int} (hl : listE l v.words = 0) : findR v.raw p l = (foundL v p l,0) := by
 have e : askedR (checkR v.raw).2.2 p v.raw.people.length l v.raw.words = 0 := by
  rw [askedR_eq,check_ok hv,if_neg (by decide),if_neg]
  ·exact hl
  ·show ¬ offP 0 ((v.people.length : Int) - 1) (p : Int) = true
   simp [offP]; omega
 unfold findR
 rw [if_neg (by rw [e]; decide),raw_v]
end
/-! ### What is asked of a chest that is not valid,or has nobody -/
end Go.Proofs.YtdmejgfcaacdoaaGreat.Abs
/- The statement ChestFound: what its function does. -/
namespace Go.Proofs.YtdmejgfcaacdoaaGreat.Abs
set_option linter.unusedSimpArgs false
open Go Go.RowKit Go.Proofs
def orderedB : List (List Int) → Bool
 | [] => true
 | x :: xs => xs.all (fun y => !fewerL y x) && orderedB xs
def choicesB (n : Nat) : Bool :=
 (allCh n (n + 1)).all (fun ch => decide (ch = listTo (bitsS ch) n) && decide (bitsS ch < 2 ^ n)) &&
 ((List.range (2 ^ n)).all fun s => decide (listTo s n ∈ allCh n (n + 1))) && orderedB (allCh n (n + 1))
theorem choices_all : (List.range 7).all choicesB = true := by kernel_rfl
theorem choices_at {n : Nat} (hn : n ≤ 6) : (∀ ch ∈ allCh n (n + 1),ch = listTo (bitsS ch) n ∧ bitsS ch < 2 ^ n) ∧ (∀ s,s < 2 ^ n → listTo s n ∈ allCh n (n + 1)) ∧ orderedB (allCh n (n + 1)) = true := by
 have h := List.all_eq_true.1 choices_all n (List.mem_range.2 (by omega))
 unfold choicesB at h
 rw [Bool.and_eq_true,Bool.and_eq_true,List.all_eq_true,List.all_eq_true] at h
 obtain ⟨⟨h1,h2⟩,h3⟩ := h
 refine ⟨fun ch hc => ?_,fun s hs => ?_,h3⟩
 ·simpa [Bool.and_eq_true] using h1 ch hc
 ·simpa using h2 s (List.mem_range.2 hs)
theorem lessL_self : ∀ l,lessL l l = false
 | [] => rfl
 | x :: l => by unfold lessL; rw [if_pos rfl]; exact lessL_self l
theorem fewerL_self (l : List Int) : fewerL l l = false := by unfold fewerL; rw [if_pos rfl]; exact lessL_self l
theorem orderedB_split {pre post : List (List Int)} {x : List Int} : orderedB (pre ++ x :: post) = true → ∀ y ∈ post,fewerL y x = false := by
 induction pre with
 | nil =>
  intro h y hy
  simp only [List.nil_append,orderedB,Bool.and_eq_true,List.all_eq_true] at h
  simpa using h.1 y hy
 | cons p pre ih =>
  intro h
  simp only [List.cons_append,orderedB,Bool.and_eq_true] at h
  exact ih h.2
theorem search_first {n : Nat} (hn : n ≤ 6) {q : List Int → Bool} {ch : List Int} (h : searchL n (n + 1) q = some ch) :
  q ch = true ∧ (∃ s,s < 2 ^ n ∧ ch = listTo s n) ∧ ∀ s,q (listTo s n) = true → fewerL (listTo s n) ch = false := by
 obtain ⟨c1,c2,c3⟩ := choices_at hn
 unfold searchL at h
 rw [List.find?_eq_some_iff_append] at h
 obtain ⟨hq,pre,post,he,hpre⟩ := h
 refine ⟨hq,?_,fun s hs => ?_⟩
 ·obtain ⟨q1,q2⟩ := c1 ch (by rw [he]; simp)
  exact ⟨_,q2,q1⟩
 ·have hm : listTo (s % 2 ^ n) n ∈ allCh n (n + 1) := c2 _ (Nat.mod_lt _ (Nat.pow_pos (by decide)))
  rw [show listTo (s % 2 ^ n) n = listTo s n from listTo_congr fun i hi => by rw [Nat.testBit_mod_two_pow]; simp [hi],he] at hm
  rcases List.mem_append.1 hm with hm | hm
  ·have := hpre _ hm
   rw [hs] at this; cases this
  ·rcases List.mem_cons.1 hm with hm | hm
   ·rw [hm]; exact fewerL_self _
   ·exact orderedB_split (by rw [← he]; exact c3) _ hm
theorem search_none {n : Nat} (hn : n ≤ 6) {q : List Int → Bool} (h : searchL n (n + 1) q = none) (s : Nat) : q (listTo s n) = false := by
 obtain ⟨_,c2,_⟩ := choices_at hn
 unfold searchL at h
 rw [List.find?_eq_none] at h
 have hm : listTo (s % 2 ^ n) n ∈ allCh n (n + 1) := c2 _ (Nat.mod_lt _ (Nat.pow_pos (by decide)))
 rw [show listTo (s % 2 ^ n) n = listTo s n from listTo_congr fun i hi => by rw [Nat.testBit_mod_two_pow]; simp [hi]] at hm
 simpa using h _ hm
/-! ### Picked lists -/
theorem VPure.of {P : Program} {g : FuncId} {xs : List AV} {r : AV} {hd : Bool} {m : Mem} {K : AV → Prop} (h : PCall P g xs r) (hk : K r) : VPure P g xs hd m K .mk := ⟨r,.inl h,hk⟩
theorem VPure.at {P : Program} {g : FuncId} {xs : List AV} {r : AV} {m : Mem} {K : AV → Prop} (h : ACall P g xs m fun r' m' => r' = r ∧ m' = m) (hk : K r) : VPure P g xs false m K .mk := ⟨r,.inr ⟨rfl,h⟩,hk⟩
theorem number_lt (v : VChest) (hv : VOk v) {j : Nat} : ∀ d,j + d + 1 < v.copies.length → (v.copies[j]!).number < (v.copies[j + d + 1]!).number
 | 0,h => hv.rise j h
 | d + 1,h => by
  have h1 := number_lt v hv (j := j) d (by omega)
  have h2 := hv.rise (j + d + 1) (by omega)
  rw [show j + (d + 1) + 1 = j + d + 1 + 1 by omega]
  omega
theorem at_number (v : VChest) (hv : VOk v) {k : Nat} (h : k < v.copies.length) : atL v (v.copies[k]!).number = (k : Int) := by
 unfold atL
 refine idxL_at h (fun x hx => ?_) (by rw [getD_any h]; simp)
 obtain ⟨j,hj,rfl⟩ := List.mem_iff_getElem.1 hx
 have hj1 : j < k := by rw [List.length_take] at hj; omega
 rw [List.getElem_take]
 have := number_lt v hv (j := j) (k - j - 1) (by omega)
 have hj2 : j < v.copies.length := by omega
 rw [show j + (k - j - 1) + 1 = k by omega,getD_any hj2] at this
 rw [decide_eq_false_iff_not]; omega
theorem key_law (v : VChest) (hv : VOk v) {p k : Nat} (hp : p < v.people.length) (hk : k < v.copies.length) :
  ((v.copies[k]!).may.testBit p = false ∧ keyL v p (v.copies[k]!).number = ([],2)) ∨
  ((v.copies[k]!).may.testBit p = true ∧ ((keyL v p (v.copies[k]!).number = ([],9) ∧ ∀ s,decide (foundL v p (listTo s v.words) = [(k : Int)]) = false) ∨
   ∃ ch,keyL v p (v.copies[k]!).number = (ch,0) ∧ (∃ s,s < 2 ^ v.words ∧ ch = listTo s v.words) ∧ decide (foundL v p ch = [(k : Int)]) = true ∧
    ∀ s,decide (foundL v p (listTo s v.words) = [(k : Int)]) = true → fewerL (listTo s v.words) ch = false)) := by
 have hw := hv.w
 have e : keyL v p (v.copies[k]!).number = if (v.copies[k]!).may.testBit p = false then ([],(2 : Int)) else match searchL v.words (v.words + 1) (keyQ v p k) with
   | some ch => (ch,(0 : Int))
   | none => ([],(9 : Int)) := by
  unfold keyL
  rw [at_number v hv hk,if_neg (by omega),Int.toNat_natCast,viewS_bit v p k hp]
  simp [hk]
  rfl
 rw [e]
 cases hb : (v.copies[k]!).may.testBit p with
 | false => left; exact ⟨rfl,if_pos rfl⟩
 | true =>
  right
  refine ⟨rfl,?_⟩
  rw [if_neg (by decide)]
  have hq : ∀ ch,keyQ v p k ch = decide (foundL v p ch = [(k : Int)]) := fun ch => setOf_eq_list v hv p k ch hp hk
  cases hs : searchL v.words (v.words + 1) (keyQ v p k) with
  | none =>
   left
   exact ⟨rfl,fun s => by rw [← hq]; exact search_none (by omega) hs s⟩
  | some ch =>
   right
   obtain ⟨h1,h2,h3⟩ := search_first (by omega) hs
   exact ⟨ch,rfl,h2,by rw [← hq]; exact h1,fun s h => h3 s (by rw [hq]; exact h)⟩
end Go.Proofs.YtdmejgfcaacdoaaGreat.Abs
