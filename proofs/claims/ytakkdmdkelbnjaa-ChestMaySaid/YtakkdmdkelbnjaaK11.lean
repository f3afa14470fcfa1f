/- Lemmas for the statements of this seat (K11): they hold without conditions beyond those that each one states. -/
import Derived.Test.YtakkdmdkelbnjaaK9
/- Laws: lists that stand for sets; what functions hand back for a valid chest. -/
namespace Go.Proofs.Ytakkdmdkelbnjaa.Abs
set_option linter.unusedSimpArgs false
open Go Go.RowKit Go.Proofs

theorem rising_range (f : Nat → Bool) (u : Int) : ∀ (n s : Nat) (last : Int), last < s → (s + n : Nat) ≤ u → risingL u last (((List.range' s n).filter f).map fun (i : Nat) => (i : Int)) = true
  | 0, _, _, _, _ => rfl
  | n + 1, s, last, h1, h2 => by
    rw [List.range'_succ]
    by_cases hf : f s = true
    · rw [List.filter_cons_of_pos hf, List.map_cons, risingL, rising_range f u n (s + 1) s (by omega) (by omega)]
      simp; omega
    · rw [List.filter_cons_of_neg hf]
      exact rising_range f u n (s + 1) last (by omega) (by omega)

theorem rising_listTo (s n m : Nat) (h : n ≤ m) : risingL m (-1) (listTo s n) = true := by
  unfold listTo
  rw [List.range_eq_range']
  exact rising_range _ _ n 0 (-1) (by decide) (by omega)

theorem any_listTo (s n : Nat) : (listTo s n).any (offP 0 ((n : Int) - 1)) = false := by
  rw [List.any_eq_false]
  intro x hx
  obtain ⟨k, h1, _, rfl⟩ := mem_listTo.1 hx
  simp [offP]; omega

theorem listE_listTo (s n : Nat) : listE (listTo s n) n = 0 := by
  unfold listE
  rw [any_listTo, rising_listTo s n n (Nat.le_refl _)]; rfl

theorem listE_nil (u : Int) : listE [] u = 0 := rfl

theorem in_listTo (s n i : Nat) : decide ((i : Int) ∈ listTo s n) = (decide (i < n) && s.testBit i) := by
  rw [Bool.eq_iff_iff, decide_eq_true_eq, mem_listTo]
  simp only [Bool.and_eq_true, decide_eq_true_eq]
  constructor
  · rintro ⟨k, h1, h2, h3⟩
    have : i = k := by omega
    rw [this]; exact ⟨h1, h2⟩
  · rintro ⟨h1, h2⟩; exact ⟨i, h1, h2, rfl⟩

theorem listTo_congr {s t n : Nat} (h : ∀ i, i < n → s.testBit i = t.testBit i) : listTo s n = listTo t n := by
  unfold listTo
  congr 1
  exact List.filter_congr fun i hi => h i (List.mem_range.1 hi)

theorem bitsS_listTo_mod (s n : Nat) : bitsS (listTo s n) = s % 2 ^ n := by
  rw [← bitsS_listTo (s % 2 ^ n) n (Nat.mod_lt _ (Nat.pow_pos (by decide)))]
  congr 1
  exact listTo_congr fun i hi => by rw [Nat.testBit_mod_two_pow]; simp [hi]

theorem sub_listTo (s t n m : Nat) (h : n ≤ m) : ((listTo s n).all fun x => decide (x ∈ listTo t m)) = true ↔ ∀ i, i < n → s.testBit i = true → t.testBit i = true := by
  rw [List.all_eq_true]
  constructor
  · intro hx i hi hs
    have := hx (i : Int) (mem_listTo.2 ⟨i, hi, hs, rfl⟩)
    rw [in_listTo, Bool.and_eq_true] at this
    exact this.2
  · intro hx x hm
    obtain ⟨k, h1, h2, rfl⟩ := mem_listTo.1 hm
    rw [in_listTo, hx k h1 h2]
    simp; omega

theorem raw_v (v : VChest) : v.raw.v = v := by
  obtain ⟨w, f, p, l, cs, rs⟩ := v
  simp only [VChest.raw, RChest.v, List.map_map, Int.toNat_natCast]
  have e1 : cs.map (RCopy.v ∘ VCopy.raw) = cs := by
    conv => rhs; rw [← List.map_id cs]
    refine List.map_congr_left fun x _ => ?_
    simp [RCopy.v, VCopy.raw]
  have e2 : rs.map (RRule.v ∘ VRule.raw) = rs := by
    conv => rhs; rw [← List.map_id rs]
    refine List.map_congr_left fun x _ => ?_
    simp [RRule.v, VRule.raw]
  rw [e1, e2]

section
variable {v : VChest}

theorem check_ok (hv : VOk v) : (checkR v.raw).2.2 = 0 := by rw [vok_check hv]

theorem find_v (hv : VOk v) {p : Nat} (hp : p < v.people.length) {l : List Int} (hl : listE l v.words = 0) : findR v.raw p l = (foundL v p l, 0) := by
  have e : askedR (checkR v.raw).2.2 p v.raw.people.length l v.raw.words = 0 := by
    rw [askedR_eq, check_ok hv, if_neg (by decide), if_neg]
    · exact hl
    · show ¬ offP 0 ((v.people.length : Int) - 1) (p : Int) = true
      simp [offP]; omega
  unfold findR
  rw [if_neg (by rw [e]; decide), raw_v]

theorem knows_v (hv : VOk v) {l : List Int} (hl : listE l v.copies.length = 0) : knowsR v.raw l = (listS (tellS v (bitsS l)), 0) := by
  have e : askedR (checkR v.raw).2.2 0 1 l v.raw.copies.length = 0 := by
    rw [askedR_one, check_ok hv, if_neg (by decide)]
    have : v.raw.copies.length = v.copies.length := by simp [VChest.raw]
    rw [this]; exact hl
  unfold knowsR
  rw [if_neg (by rw [e]; decide), raw_v]

theorem why_v (hv : VOk v) {fact : Nat} (hf : fact < v.facts) {l : List Int} (hl : listE l v.copies.length = 0) : whyR v.raw l fact = whyL v l fact := by
  have e : askedR (checkR v.raw).2.2 fact v.raw.facts l v.raw.copies.length = 0 := by
    rw [askedR_eq, check_ok hv, if_neg (by decide), if_neg]
    · have : v.raw.copies.length = v.copies.length := by simp [VChest.raw]
      rw [this]; exact hl
    · show ¬ offP 0 ((v.facts : Int) - 1) (fact : Int) = true
      simp [offP]; omega
  unfold whyR
  rw [if_neg (by rw [e]; decide), raw_v]; rfl

theorem lock_v (hv : VOk v) {p fact : Nat} (hp : p < v.people.length) (hf : fact < v.facts) : lockR v.raw p fact = (lockL v p fact, 0) := by
  have e : enterE v.raw [(p : Int), (v.raw.people.length : Int), (fact : Int), v.raw.facts] = 0 := by
    rw [enterE_four, check_ok hv, if_neg (by decide), if_neg]
    show ¬ (offP 0 ((v.people.length : Int) - 1) (p : Int) || offP 0 ((v.facts : Int) - 1) (fact : Int)) = true
    simp [offP]; omega
  unfold lockR
  rw [if_neg (by rw [e]; decide), raw_v]; rfl

theorem least_v (hv : VOk v) {p : Nat} (hp : p < v.people.length) : leastR v.raw p = (leastL v p, 0) := by
  have e : enterE v.raw [(p : Int), (v.raw.people.length : Int)] = 0 := by
    rw [enterE_two, check_ok hv, if_neg (by decide), if_neg]
    show ¬ (offP 0 ((v.people.length : Int) - 1) (p : Int)) = true
    simp [offP]; omega
  unfold leastR
  rw [if_neg (by rw [e]; decide), raw_v]; rfl

theorem key_v (hv : VOk v) {p : Nat} (hp : p < v.people.length) (n : Int) : keyR v.raw p n = keyL v p n := by
  have e : enterE v.raw [(p : Int), (v.raw.people.length : Int)] = 0 := by
    rw [enterE_two, check_ok hv, if_neg (by decide), if_neg]
    show ¬ (offP 0 ((v.people.length : Int) - 1) (p : Int)) = true
    simp [offP]; omega
  unfold keyR
  rw [if_neg (by rw [e]; decide), raw_v]; rfl

theorem lost_v (hv : VOk v) : lostR v.raw = (lostL v, 0) := by
  unfold lostR
  rw [check_ok hv, if_neg (by decide), raw_v]
end

/-- What is found, as a set. -/
theorem found_set (v : VChest) (hv : VOk v) {p : Nat} (hp : p < v.people.length) (l : List Int) : foundL v p l = listTo (findS v p (bitsS l)) v.copies.length := by
  rw [← found_find v hv p l hp]
  exact listS_lt (setOf_lt _ _) (by have := hv.c; omega)

theorem findS_bit (v : VChest) {p ws i : Nat} (hp : p < v.people.length) : (findS v p ws).testBit i = (decide (i < v.copies.length) && ((v.copies[i]!).may.testBit p && subS ws (v.copies[i]!).words)) := by
  unfold findS
  rw [setOf_bit, viewS_bit v p i hp]
  cases decide (i < v.copies.length) <;> simp

theorem tell_set (v : VChest) (hv : VOk v) (s : Nat) : listS (tellS v s) = listTo (tellS v s) v.facts := listS_lt (tellS_lt v hv s) (by have := hv.f; omega)

/-! ### What is asked of a chest that is not valid, or has nobody -/
theorem enter_bad {c : RChest} (h : ¬ ((checkR c).2.2 = 0 ∧ 0 < c.people.length)) : enterE c [0, c.people.length] ≠ 0 := by
  rw [enterE_two]
  by_cases h1 : (checkR c).2.2 = 0
  · rw [if_neg (by omega), if_pos]
    · decide
    · simp [offP]; omega
  · rw [if_pos h1]; exact h1

theorem find_bad {c : RChest} (h : ¬ ((checkR c).2.2 = 0 ∧ 0 < c.people.length)) (l : List Int) : (findR c 0 l).2 ≠ 0 := by
  have h1 : askedR (checkR c).2.2 0 c.people.length l c.words ≠ 0 := by
    have := enter_bad h
    rw [enterE_two] at this
    rw [askedR_eq]
    by_cases q : (checkR c).2.2 ≠ 0
    · rw [if_pos q]; exact q
    · rw [if_neg q] at this ⊢
      by_cases q2 : offP 0 ((c.people.length : Int) - 1) 0 = true
      · rw [if_pos q2]; decide
      · rw [if_neg q2] at this; exact absurd rfl this
  unfold findR
  rw [if_pos h1]; exact h1

theorem key_bad {c : RChest} (h : ¬ ((checkR c).2.2 = 0 ∧ 0 < c.people.length)) (n : Int) : (keyR c 0 n).2 ≠ 0 := by
  have := enter_bad h
  unfold keyR
  rw [if_pos this]; exact this

theorem least_bad {c : RChest} (h : ¬ ((checkR c).2.2 = 0 ∧ 0 < c.people.length)) : (leastR c 0).2 ≠ 0 := by
  have := enter_bad h
  unfold leastR
  rw [if_pos this]; exact this

theorem lock_bad {c : RChest} (h : ¬ ((checkR c).2.2 = 0 ∧ 0 < c.people.length)) (f : Int) : (lockR c 0 f).2 ≠ 0 := by
  have h1 : enterE c [0, c.people.length, f, c.facts] ≠ 0 := by
    have := enter_bad h
    rw [enterE_two] at this
    rw [enterE_four]
    by_cases q : (checkR c).2.2 ≠ 0
    · rw [if_pos q]; exact q
    · rw [if_neg q] at this ⊢
      by_cases q2 : offP 0 ((c.people.length : Int) - 1) 0 = true
      · rw [q2, Bool.true_or, if_pos rfl]; decide
      · rw [if_neg q2] at this; exact absurd rfl this
  unfold lockR
  rw [if_pos h1]; exact h1

theorem knows_bad {c : RChest} (h : ¬ (checkR c).2.2 = 0) (l : List Int) : (knowsR c l).2 ≠ 0 := by
  have h1 : askedR (checkR c).2.2 0 1 l c.copies.length ≠ 0 := by rw [askedR_eq, if_pos h]; exact h
  unfold knowsR
  rw [if_pos h1]; exact h1

theorem why_bad {c : RChest} (h : ¬ (checkR c).2.2 = 0) (l : List Int) (f : Int) : (whyR c l f).2 ≠ 0 := by
  have h1 : askedR (checkR c).2.2 f c.facts l c.copies.length ≠ 0 := by rw [askedR_eq, if_pos h]; exact h
  unfold whyR
  rw [if_pos h1]; exact h1

theorem lost_bad {c : RChest} (h : ¬ (checkR c).2.2 = 0) : lostR c = ([], (checkR c).2.2) := by
  unfold lostR; rw [if_pos h]
end Go.Proofs.Ytakkdmdkelbnjaa.Abs

/- The statement ChestFound: what its function does. -/
namespace Go.Proofs.Ytakkdmdkelbnjaa.Abs
set_option linter.unusedSimpArgs false
set_option maxHeartbeats 4000000
set_option maxRecDepth 100000
open Go Go.RowKit Go.Proofs

theorem natMod (a b : Nat) : ((a : Int) % (b : Int)) = ((a % b : Nat) : Int) := (Int.natCast_emod a b).symm

/-- Bytes, as they are handed over. -/
def bytesA (l : List Nat) : AV := .agg (l.map fun (n : Nat) => .int .u8 n)

theorem chestFound_bad (c : RChest) (hs : namesFit c) (hpl : c.people.length ≤ 9223372036854775807) (x y : Nat) (h : ¬ ((checkR c).2.2 = 0 ∧ 0 < c.people.length)) :
    PCall Try.prog 8 [chestA c, .agg [.int .u8 x, .int .u8 y]] (.bool true) := by
  intro m
  have h1 := peopled_c c hs
  have e1 : (decide ((checkR c).2.2 = 0) && decide (0 < c.people.length)) = false := by
    rw [Bool.and_eq_false_iff, decide_eq_false_iff_not, decide_eq_false_iff_not]; omega
  rw [e1] at h1
  have h2 := find_top c hs 0 [] hpl
  have h3 := find_bad h []
  generalize findR c 0 [] = k at *
  simp only [chestA, chestL, strs, ints, List.map_nil] at *
  (refine acall_intro (E := env fun _ => .imm) (envOk _) rfl Try.func8 rfl Try.call8 (by kernel_rfl) (by simp [Try.ntmps8]) ?_; simp only [Try.f8];  simp (maxSteps := 4000000) only [↓VP0, ↓VP1, ↓VP2, VQ0, VQ1, VQ2, VQ3, VQ4, VT, ite_self, ite_split, Nat.reduceEqDiff, Nat.reduceAdd, Nat.reduceSub, Nat.reduceMul, Nat.reduceLeDiff, Nat.reduceLT, Nat.reduceBEq, Int.reduceLE, Int.reduceLT, Int.reduceNeg, Int.reduceAdd, Int.reduceSub, Int.reduceToNat, ↓reduceIte, reduceCtorEq])
  ((refine ACall.pure (h1) ?_; try simp (maxSteps := 4000000) only [↓VP0, ↓VP1, ↓VP2, VQ0, VQ1, VQ2, VQ3, VQ4, VT, ite_self, ite_split, Nat.reduceEqDiff, Nat.reduceAdd, Nat.reduceSub, Nat.reduceMul, Nat.reduceLeDiff, Nat.reduceLT, Nat.reduceBEq, Int.reduceLE, Int.reduceLT, Int.reduceNeg, Int.reduceAdd, Int.reduceSub, Int.reduceToNat, ↓reduceIte, reduceCtorEq]); try simp (maxSteps := 4000000) only [↓VP0, ↓VP1, ↓VP2, VQ0, VQ1, VQ2, VQ3, VQ4, VT, ite_self, ite_split, Nat.reduceEqDiff, Nat.reduceAdd, Nat.reduceSub, Nat.reduceMul, Nat.reduceLeDiff, Nat.reduceLT, Nat.reduceBEq, Int.reduceLE, Int.reduceLT, Int.reduceNeg, Int.reduceAdd, Int.reduceSub, Int.reduceToNat, ↓reduceIte, reduceCtorEq, eq_self, decide_true, decide_false, if_true, if_false, not_true_eq_false, List.append_eq])
  ((refine ACall.pure (h2) ?_; try simp (maxSteps := 4000000) only [↓VP0, ↓VP1, ↓VP2, VQ0, VQ1, VQ2, VQ3, VQ4, VT, ite_self, ite_split, Nat.reduceEqDiff, Nat.reduceAdd, Nat.reduceSub, Nat.reduceMul, Nat.reduceLeDiff, Nat.reduceLT, Nat.reduceBEq, Int.reduceLE, Int.reduceLT, Int.reduceNeg, Int.reduceAdd, Int.reduceSub, Int.reduceToNat, ↓reduceIte, reduceCtorEq]); try simp (maxSteps := 4000000) only [↓VP0, ↓VP1, ↓VP2, VQ0, VQ1, VQ2, VQ3, VQ4, VT, ite_self, ite_split, Nat.reduceEqDiff, Nat.reduceAdd, Nat.reduceSub, Nat.reduceMul, Nat.reduceLeDiff, Nat.reduceLT, Nat.reduceBEq, Int.reduceLE, Int.reduceLT, Int.reduceNeg, Int.reduceAdd, Int.reduceSub, Int.reduceToNat, ↓reduceIte, reduceCtorEq, eq_self, decide_true, decide_false, if_true, if_false, not_true_eq_false, List.append_eq])
  simp (maxSteps := 4000000) only [↓VP0, ↓VP1, ↓VP2, VQ0, VQ1, VQ2, VQ3, VQ4, VT, ite_self, ite_split, Nat.reduceEqDiff, Nat.reduceAdd, Nat.reduceSub, Nat.reduceMul, Nat.reduceLeDiff, Nat.reduceLT, Nat.reduceBEq, Int.reduceLE, Int.reduceLT, Int.reduceNeg, Int.reduceAdd, Int.reduceSub, Int.reduceToNat, ↓reduceIte, reduceCtorEq, h3]
  ((refine ACall.pure (awake_c) ?_; try simp (maxSteps := 4000000) only [↓VP0, ↓VP1, ↓VP2, VQ0, VQ1, VQ2, VQ3, VQ4, VT, ite_self, ite_split, Nat.reduceEqDiff, Nat.reduceAdd, Nat.reduceSub, Nat.reduceMul, Nat.reduceLeDiff, Nat.reduceLT, Nat.reduceBEq, Int.reduceLE, Int.reduceLT, Int.reduceNeg, Int.reduceAdd, Int.reduceSub, Int.reduceToNat, ↓reduceIte, reduceCtorEq]); try simp (maxSteps := 4000000) only [↓VP0, ↓VP1, ↓VP2, VQ0, VQ1, VQ2, VQ3, VQ4, VT, ite_self, ite_split, Nat.reduceEqDiff, Nat.reduceAdd, Nat.reduceSub, Nat.reduceMul, Nat.reduceLeDiff, Nat.reduceLT, Nat.reduceBEq, Int.reduceLE, Int.reduceLT, Int.reduceNeg, Int.reduceAdd, Int.reduceSub, Int.reduceToNat, ↓reduceIte, reduceCtorEq, eq_self, decide_true, decide_false, if_true, if_false, not_true_eq_false, List.append_eq])

theorem chestFound_ok (v : VChest) (hv : VOk v) (hs : namesFit v.raw) (x y : Nat) (hp : 0 < v.people.length) (hx : x < 256) (hy : y < 256) :
    PCall Try.prog 8 [vchestA v, .agg [.int .u8 x, .int .u8 y]] (.bool true) := by
  intro m
  have h3 := hv.p
  have hc6 := hv.c
  have hw5 := hv.w
  have h1 := peopled_c v.raw hs
  have e1 : (decide ((checkR v.raw).2.2 = 0) && decide (0 < v.raw.people.length)) = true := by
    rw [Bool.and_eq_true, decide_eq_true_eq, decide_eq_true_eq]; exact ⟨check_ok hv, hp⟩
  rw [e1, vchestA_raw] at h1
  have hpp : x % v.people.length < v.people.length := Nat.mod_lt _ hp
  have h2 := find_top v.raw hs ((x % v.people.length : Nat) : Int) (listTo y v.words) (by show v.people.length ≤ _; omega)
  rw [vchestA_raw, find_v hv hpp (listE_listTo y v.words), found_set v hv hpp] at h2
  have hb := lawbits_c y v.words hy (by omega)
  generalize hP : x % v.people.length = p at *
  have hr := rising_c (listTo (findS v p (bitsS (listTo y v.words))) v.copies.length) v.copies.length
  rw [rising_listTo _ _ _ (Nat.le_refl _)] at hr
  have hh := fun i => has_c (listTo (findS v p (bitsS (listTo y v.words))) v.copies.length) i
  have hbit := fun (n : Nat) (i : Int) (hn : n < 2 ^ 62) (hi : i ≤ 9223372036854775807) => bitN_c n i hn hi
  have hcp := fun i (hi : i < v.copies.length) => may_lt v hv hi
  simp only [vchestA, vchestL, strs, ints, List.map_nil] at *
  (refine acall_intro (E := env fun _ => .imm) (envOk _) rfl Try.func8 rfl Try.call8 (by kernel_rfl) (by simp [Try.ntmps8]) ?_; simp only [Try.f8];  simp (maxSteps := 4000000) only [↓VP0, ↓VP1, ↓VP2, VQ0, VQ1, VQ2, VQ3, VQ4, VT, ite_self, ite_split, Nat.reduceEqDiff, Nat.reduceAdd, Nat.reduceSub, Nat.reduceMul, Nat.reduceLeDiff, Nat.reduceLT, Nat.reduceBEq, Int.reduceLE, Int.reduceLT, Int.reduceNeg, Int.reduceAdd, Int.reduceSub, Int.reduceToNat, ↓reduceIte, reduceCtorEq])
  ((refine ACall.pure (h1) ?_; try simp (maxSteps := 4000000) only [↓VP0, ↓VP1, ↓VP2, VQ0, VQ1, VQ2, VQ3, VQ4, VT, ite_self, ite_split, Nat.reduceEqDiff, Nat.reduceAdd, Nat.reduceSub, Nat.reduceMul, Nat.reduceLeDiff, Nat.reduceLT, Nat.reduceBEq, Int.reduceLE, Int.reduceLT, Int.reduceNeg, Int.reduceAdd, Int.reduceSub, Int.reduceToNat, ↓reduceIte, reduceCtorEq]); try simp (maxSteps := 4000000) only [↓VP0, ↓VP1, ↓VP2, VQ0, VQ1, VQ2, VQ3, VQ4, VT, ite_self, ite_split, Nat.reduceEqDiff, Nat.reduceAdd, Nat.reduceSub, Nat.reduceMul, Nat.reduceLeDiff, Nat.reduceLT, Nat.reduceBEq, Int.reduceLE, Int.reduceLT, Int.reduceNeg, Int.reduceAdd, Int.reduceSub, Int.reduceToNat, ↓reduceIte, reduceCtorEq, eq_self, decide_true, decide_false, if_true, if_false, not_true_eq_false, List.append_eq])
  (refine adraw (by first | exact envOk _ | exact envCOk _ _ _) mixed [⟨false, false, 0⟩, ⟨false, false, 0⟩, ⟨false, false, 0⟩, ⟨false, false, 0⟩, ⟨false, false, 0⟩, ⟨false, false, 0⟩, ⟨false, false, 0⟩, ⟨false, false, 0⟩, ⟨false, false, 0⟩, ⟨false, false, 0⟩, ⟨false, false, 0⟩, ⟨false, false, 0⟩, ⟨false, false, 0⟩, ⟨false, false, 0⟩] (by kernel_rfl) ?_; show vcOpsD _ _ _ (_ :: _) _ _)
  simp (maxSteps := 4000000) only [↓VP0, ↓VP1, ↓VP2, VQ0, VQ1, VQ2, VQ3, VQ4, VT, ite_self, ite_split, Nat.reduceEqDiff, Nat.reduceAdd, Nat.reduceSub, Nat.reduceMul, Nat.reduceLeDiff, Nat.reduceLT, Nat.reduceBEq, Int.reduceLE, Int.reduceLT, Int.reduceNeg, Int.reduceAdd, Int.reduceSub, Int.reduceToNat, ↓reduceIte, reduceCtorEq, natMod, hP]
  repeat' (first | intro _ | refine And.intro ?_ ?_)
  all_goals try (first | omega | (simp only [List.length_map, List.length_cons, List.length_nil, List.length_append, Nat.zero_add]; omega) | exact Int.natCast_nonneg _ | exact Int.le_trans (by decide) (Int.natCast_nonneg _) | exact Nat.le_of_ble_eq_true rfl)
  (refine ⟨_, hb, ?_⟩)
  simp (maxSteps := 4000000) only [↓VP0, ↓VP1, ↓VP2, VQ0, VQ1, VQ2, VQ3, VQ4, VT, ite_self, ite_split, Nat.reduceEqDiff, Nat.reduceAdd, Nat.reduceSub, Nat.reduceMul, Nat.reduceLeDiff, Nat.reduceLT, Nat.reduceBEq, Int.reduceLE, Int.reduceLT, Int.reduceNeg, Int.reduceAdd, Int.reduceSub, Int.reduceToNat, ↓reduceIte, reduceCtorEq, natMod, hP]
  ((refine ACall.pure (h2) ?_; try simp (maxSteps := 4000000) only [↓VP0, ↓VP1, ↓VP2, VQ0, VQ1, VQ2, VQ3, VQ4, VT, ite_self, ite_split, Nat.reduceEqDiff, Nat.reduceAdd, Nat.reduceSub, Nat.reduceMul, Nat.reduceLeDiff, Nat.reduceLT, Nat.reduceBEq, Int.reduceLE, Int.reduceLT, Int.reduceNeg, Int.reduceAdd, Int.reduceSub, Int.reduceToNat, ↓reduceIte, reduceCtorEq]); try simp (maxSteps := 4000000) only [↓VP0, ↓VP1, ↓VP2, VQ0, VQ1, VQ2, VQ3, VQ4, VT, ite_self, ite_split, Nat.reduceEqDiff, Nat.reduceAdd, Nat.reduceSub, Nat.reduceMul, Nat.reduceLeDiff, Nat.reduceLT, Nat.reduceBEq, Int.reduceLE, Int.reduceLT, Int.reduceNeg, Int.reduceAdd, Int.reduceSub, Int.reduceToNat, ↓reduceIte, reduceCtorEq, eq_self, decide_true, decide_false, if_true, if_false, not_true_eq_false, List.append_eq])
  repeat' (first | intro _ | refine And.intro ?_ ?_)
  all_goals try (first | omega | (simp only [List.length_map, List.length_cons, List.length_nil, List.length_append, Nat.zero_add]; omega) | exact Int.natCast_nonneg _ | exact Int.le_trans (by decide) (Int.natCast_nonneg _) | exact Nat.le_of_ble_eq_true rfl)
  ((refine ACall.pure (hr) ?_; try simp (maxSteps := 4000000) only [↓VP0, ↓VP1, ↓VP2, VQ0, VQ1, VQ2, VQ3, VQ4, VT, ite_self, ite_split, Nat.reduceEqDiff, Nat.reduceAdd, Nat.reduceSub, Nat.reduceMul, Nat.reduceLeDiff, Nat.reduceLT, Nat.reduceBEq, Int.reduceLE, Int.reduceLT, Int.reduceNeg, Int.reduceAdd, Int.reduceSub, Int.reduceToNat, ↓reduceIte, reduceCtorEq]); try simp (maxSteps := 4000000) only [↓VP0, ↓VP1, ↓VP2, VQ0, VQ1, VQ2, VQ3, VQ4, VT, ite_self, ite_split, Nat.reduceEqDiff, Nat.reduceAdd, Nat.reduceSub, Nat.reduceMul, Nat.reduceLeDiff, Nat.reduceLT, Nat.reduceBEq, Int.reduceLE, Int.reduceLT, Int.reduceNeg, Int.reduceAdd, Int.reduceSub, Int.reduceToNat, ↓reduceIte, reduceCtorEq, eq_self, decide_true, decide_false, if_true, if_false, not_true_eq_false, List.append_eq])
  refine aloop (envOk _) (fun i : Nat => ⟨[(2, .v (.eptr [.int .i64 v.words, .int .i64 v.facts, .slice 1 (v.people.map AV.str), .int .i64 v.last, .slice 4 (v.copies.map vcopyA), .slice 2 (v.rules.map vruleA)])), (7, .v (.int .i64 p)), (8, .v (.slice 1 ((listTo y v.words).map (AV.int .i64)))),
      (9, .v (.slice 1 ((listTo (findS v p (bitsS (listTo y v.words))) v.copies.length).map (AV.int .i64)))), (11, .v (.int .i64 i))], [], [], m⟩)
    (fun i => i ≤ v.copies.length) (fun i => v.copies.length - i) 0 (fun _ => rfl) (by simp) (by (simp only [Fits, fitsV, fitsO, fitsL, ↓upd, ↓lookV, ↓lookO, ↓lookL, Nat.reduceEqDiff, ↓reduceIte, ints, and_true, true_and, Option.some.injEq]); simp [natMod, hP]) ?_
  intro i hi
  simp (maxSteps := 4000000) only [↓VP0, ↓VP1, ↓VP2, VQ0, VQ1, VQ2, VQ3, VQ4, VT, ite_self, ite_split, Nat.reduceEqDiff, Nat.reduceAdd, Nat.reduceSub, Nat.reduceMul, Nat.reduceLeDiff, Nat.reduceLT, Nat.reduceBEq, Int.reduceLE, Int.reduceLT, Int.reduceNeg, Int.reduceAdd, Int.reduceSub, Int.reduceToNat, ↓reduceIte, reduceCtorEq, vcopyA]
  repeat' (first | intro _ | refine And.intro ?_ ?_)
  all_goals try (first | omega | (simp only [List.length_map, List.length_cons, List.length_nil, List.length_append, Nat.zero_add]; omega) | exact Int.natCast_nonneg _ | exact Int.le_trans (by decide) (Int.natCast_nonneg _) | exact Nat.le_of_ble_eq_true rfl)
  · have hlt : i < v.copies.length := by omega
    obtain ⟨b1, b2, _⟩ := hcp i hlt
    ((refine ACall.pure (hbit (v.copies[i]!).may p b1 (by omega)) ?_; try simp (maxSteps := 4000000) only [↓VP0, ↓VP1, ↓VP2, VQ0, VQ1, VQ2, VQ3, VQ4, VT, ite_self, ite_split, Nat.reduceEqDiff, Nat.reduceAdd, Nat.reduceSub, Nat.reduceMul, Nat.reduceLeDiff, Nat.reduceLT, Nat.reduceBEq, Int.reduceLE, Int.reduceLT, Int.reduceNeg, Int.reduceAdd, Int.reduceSub, Int.reduceToNat, ↓reduceIte, reduceCtorEq]); try simp (maxSteps := 4000000) only [↓VP0, ↓VP1, ↓VP2, VQ0, VQ1, VQ2, VQ3, VQ4, VT, ite_self, ite_split, Nat.reduceEqDiff, Nat.reduceAdd, Nat.reduceSub, Nat.reduceMul, Nat.reduceLeDiff, Nat.reduceLT, Nat.reduceBEq, Int.reduceLE, Int.reduceLT, Int.reduceNeg, Int.reduceAdd, Int.reduceSub, Int.reduceToNat, ↓reduceIte, reduceCtorEq, eq_self, decide_true, decide_false, if_true, if_false, not_true_eq_false, List.append_eq])
    refine aloop (envOk _) (fun k : Nat => ⟨[(2, .v (.eptr [.int .i64 v.words, .int .i64 v.facts, .slice 1 (v.people.map AV.str), .int .i64 v.last, .slice 4 (v.copies.map vcopyA), .slice 2 (v.rules.map vruleA)])), (7, .v (.int .i64 p)), (8, .v (.slice 1 ((listTo y v.words).map (AV.int .i64)))),
        (9, .v (.slice 1 ((listTo (findS v p (bitsS (listTo y v.words))) v.copies.length).map (AV.int .i64)))), (11, .v (.int .i64 i)), (12, .v (.bool ((v.copies[i]!).may.testBit p && ((listTo y v.words).take k).all fun w => (v.copies[i]!).words.testBit w.toNat))), (13, .v (.int .i64 k))], [], [], m⟩)
      (fun k => k ≤ (listTo y v.words).length) (fun k => (listTo y v.words).length - k) 0 (fun _ => rfl) (by simp) (by (simp only [Fits, fitsV, fitsO, fitsL, ↓upd, ↓lookV, ↓lookO, ↓lookL, Nat.reduceEqDiff, ↓reduceIte, ints, and_true, true_and, Option.some.injEq]); simp) ?_
    intro k hk
    simp (maxSteps := 4000000) only [↓VP0, ↓VP1, ↓VP2, VQ0, VQ1, VQ2, VQ3, VQ4, VT, ite_self, ite_split, Nat.reduceEqDiff, Nat.reduceAdd, Nat.reduceSub, Nat.reduceMul, Nat.reduceLeDiff, Nat.reduceLT, Nat.reduceBEq, Int.reduceLE, Int.reduceLT, Int.reduceNeg, Int.reduceAdd, Int.reduceSub, Int.reduceToNat, ↓reduceIte, reduceCtorEq, vcopyA]
    repeat' (first | intro _ | refine And.intro ?_ ?_)
    all_goals try (first | omega | (simp only [List.length_map, List.length_cons, List.length_nil, List.length_append, Nat.zero_add]; omega) | exact Int.natCast_nonneg _ | exact Int.le_trans (by decide) (Int.natCast_nonneg _) | exact Nat.le_of_ble_eq_true rfl)
    · have hlt2 : k < (listTo y v.words).length := by omega
      have ew : (listTo y v.words)[k]! = (listTo y v.words)[k] := getD_idx hlt2
      have hmw := mem_listTo.1 (List.getElem_mem hlt2)
      have htk : (listTo y v.words).take (k + 1) = (listTo y v.words).take k ++ [(listTo y v.words)[k]!] := by rw [ew]; exact List.take_succ_eq_append_getElem hlt2
      have hb2 := hbit (v.copies[i]!).words (listTo y v.words)[k]! b2 (by rw [ew]; obtain ⟨j, h1, _, h2⟩ := hmw; omega)
      have hA : ((listTo y v.words).take (k + 1)).all (fun w => (v.copies[i]!).words.testBit w.toNat) = (((listTo y v.words).take k).all (fun w => (v.copies[i]!).words.testBit w.toNat) && (v.copies[i]!).words.testBit ((listTo y v.words)[k]!).toNat) := by
        rw [htk, List.all_append]; simp
      (refine adraw (by first | exact envOk _ | exact envCOk _ _ _) mixed [⟨false, false, 0⟩, ⟨false, false, 0⟩, ⟨false, false, 0⟩, ⟨false, false, 0⟩, ⟨false, false, 0⟩, ⟨false, false, 0⟩, ⟨false, false, 0⟩, ⟨false, false, 0⟩, ⟨false, false, 0⟩, ⟨false, false, 0⟩, ⟨false, false, 0⟩, ⟨false, false, 0⟩, ⟨false, false, 0⟩, ⟨false, false, 0⟩, ⟨false, false, 0⟩] (by kernel_rfl) ?_; show vcOpsD _ _ _ (_ :: _) _ _)
      simp (maxSteps := 4000000) only [↓VP0, ↓VP1, ↓VP2, VQ0, VQ1, VQ2, VQ3, VQ4, VT, ite_self, ite_split, Nat.reduceEqDiff, Nat.reduceAdd, Nat.reduceSub, Nat.reduceMul, Nat.reduceLeDiff, Nat.reduceLT, Nat.reduceBEq, Int.reduceLE, Int.reduceLT, Int.reduceNeg, Int.reduceAdd, Int.reduceSub, Int.reduceToNat, ↓reduceIte, reduceCtorEq, vcopyA]
      repeat' (first | intro _ | refine And.intro ?_ ?_)
      all_goals try (first | omega | (simp only [List.length_map, List.length_cons, List.length_nil, List.length_append, Nat.zero_add]; omega) | exact Int.natCast_nonneg _ | exact Int.le_trans (by decide) (Int.natCast_nonneg _) | exact Nat.le_of_ble_eq_true rfl)
      · (refine ⟨_, hb2, ?_⟩; try simp (maxSteps := 4000000) only [↓VP0, ↓VP1, ↓VP2, VQ0, VQ1, VQ2, VQ3, VQ4, VT, ite_self, ite_split, Nat.reduceEqDiff, Nat.reduceAdd, Nat.reduceSub, Nat.reduceMul, Nat.reduceLeDiff, Nat.reduceLT, Nat.reduceBEq, Int.reduceLE, Int.reduceLT, Int.reduceNeg, Int.reduceAdd, Int.reduceSub, Int.reduceToNat, ↓reduceIte, reduceCtorEq])
        repeat' (first | intro _ | refine And.intro ?_ ?_)
        all_goals try (first | omega | (simp only [List.length_map, List.length_cons, List.length_nil, List.length_append, Nat.zero_add]; omega) | exact Int.natCast_nonneg _ | exact Int.le_trans (by decide) (Int.natCast_nonneg _) | exact Nat.le_of_ble_eq_true rfl)
        have hq : ((v.copies[i]!).may.testBit p && ((listTo y v.words).take k).all fun w => (v.copies[i]!).words.testBit w.toNat) = true := by assumption
        refine ⟨k + 1, by dsimp only; omega, by dsimp only; omega, ?_⟩
        (simp only [Fits, fitsV, fitsO, fitsL, ↓upd, ↓lookV, ↓lookO, ↓lookL, Nat.reduceEqDiff, ↓reduceIte, ints, and_true, true_and, Option.some.injEq])
        rw [hA, ← Bool.and_assoc, hq, Bool.true_and]
        simp
      · have hq : ¬ ((v.copies[i]!).may.testBit p && ((listTo y v.words).take k).all fun w => (v.copies[i]!).words.testBit w.toNat) = true := by assumption
        rw [Bool.not_eq_true] at hq
        refine ⟨k + 1, by dsimp only; omega, by dsimp only; omega, ?_⟩
        (simp only [Fits, fitsV, fitsO, fitsL, ↓upd, ↓lookV, ↓lookO, ↓lookL, Nat.reduceEqDiff, ↓reduceIte, ints, and_true, true_and, Option.some.injEq])
        rw [hA, ← Bool.and_assoc, hq, Bool.false_and]
        simp
    · have hh' := hh (i : Int)
      rw [in_listTo] at hh'
      have hal : (listTo y v.words).take k = listTo y v.words := List.take_of_length_le (by omega)
      have e2 : (decide (i < v.copies.length) && (findS v p (bitsS (listTo y v.words))).testBit i) = ((v.copies[i]!).may.testBit p && ((listTo y v.words).take k).all fun w => (v.copies[i]!).words.testBit w.toNat) := by
        rw [findS_bit v hpp, subS_bits, hal, decide_eq_true hlt]; simp
      rw [e2] at hh'
      ((refine ACall.pure (hh') ?_; try simp (maxSteps := 4000000) only [↓VP0, ↓VP1, ↓VP2, VQ0, VQ1, VQ2, VQ3, VQ4, VT, ite_self, ite_split, Nat.reduceEqDiff, Nat.reduceAdd, Nat.reduceSub, Nat.reduceMul, Nat.reduceLeDiff, Nat.reduceLT, Nat.reduceBEq, Int.reduceLE, Int.reduceLT, Int.reduceNeg, Int.reduceAdd, Int.reduceSub, Int.reduceToNat, ↓reduceIte, reduceCtorEq]); try simp (maxSteps := 4000000) only [↓VP0, ↓VP1, ↓VP2, VQ0, VQ1, VQ2, VQ3, VQ4, VT, ite_self, ite_split, Nat.reduceEqDiff, Nat.reduceAdd, Nat.reduceSub, Nat.reduceMul, Nat.reduceLeDiff, Nat.reduceLT, Nat.reduceBEq, Int.reduceLE, Int.reduceLT, Int.reduceNeg, Int.reduceAdd, Int.reduceSub, Int.reduceToNat, ↓reduceIte, reduceCtorEq, eq_self, decide_true, decide_false, if_true, if_false, not_true_eq_false, List.append_eq])
      repeat' (first | intro _ | refine And.intro ?_ ?_)
      all_goals try (first | omega | (simp only [List.length_map, List.length_cons, List.length_nil, List.length_append, Nat.zero_add]; omega) | exact Int.natCast_nonneg _ | exact Int.le_trans (by decide) (Int.natCast_nonneg _) | exact Nat.le_of_ble_eq_true rfl)
      (refine ⟨i + 1, by first | omega | (dsimp only; omega), by dsimp only; omega, ?_⟩; (simp only [Fits, fitsV, fitsO, fitsL, ↓upd, ↓lookV, ↓lookO, ↓lookL, Nat.reduceEqDiff, ↓reduceIte, ints, and_true, true_and, Option.some.injEq]); try simp [])
  · ((refine ACall.pure (awake_c) ?_; try simp (maxSteps := 4000000) only [↓VP0, ↓VP1, ↓VP2, VQ0, VQ1, VQ2, VQ3, VQ4, VT, ite_self, ite_split, Nat.reduceEqDiff, Nat.reduceAdd, Nat.reduceSub, Nat.reduceMul, Nat.reduceLeDiff, Nat.reduceLT, Nat.reduceBEq, Int.reduceLE, Int.reduceLT, Int.reduceNeg, Int.reduceAdd, Int.reduceSub, Int.reduceToNat, ↓reduceIte, reduceCtorEq]); try simp (maxSteps := 4000000) only [↓VP0, ↓VP1, ↓VP2, VQ0, VQ1, VQ2, VQ3, VQ4, VT, ite_self, ite_split, Nat.reduceEqDiff, Nat.reduceAdd, Nat.reduceSub, Nat.reduceMul, Nat.reduceLeDiff, Nat.reduceLT, Nat.reduceBEq, Int.reduceLE, Int.reduceLT, Int.reduceNeg, Int.reduceAdd, Int.reduceSub, Int.reduceToNat, ↓reduceIte, reduceCtorEq, eq_self, decide_true, decide_false, if_true, if_false, not_true_eq_false, List.append_eq])

theorem chestFound_c (c : RChest) (l : List Nat) (hl : l.length = 2) (hb : ∀ x ∈ l, x < 256) (hs : namesFit c) (hpl : c.people.length ≤ 9223372036854775807) :
    PCall Try.prog 8 [chestA c, bytesA l] (.bool true) := by
  match l, hl with
  | [x, y], _ =>
    by_cases h : (checkR c).2.2 = 0 ∧ 0 < c.people.length
    · obtain ⟨e1, hv⟩ := valid_v h.1
      have hp : 0 < c.v.people.length := h.2
      rw [e1] at hs
      rw [e1, vchestA_raw]
      exact chestFound_ok c.v hv hs x y hp (hb x (by simp)) (hb y (by simp))
    · exact chestFound_bad c hs hpl x y h
end Go.Proofs.Ytakkdmdkelbnjaa.Abs

/- Laws: choices come with the fewest first; lists that are picked. -/
namespace Go.Proofs.Ytakkdmdkelbnjaa.Abs
set_option linter.unusedSimpArgs false
open Go Go.RowKit Go.Proofs

def orderedB : List (List Int) → Bool
  | [] => true
  | x :: xs => xs.all (fun y => !fewerL y x) && orderedB xs

def choicesB (n : Nat) : Bool :=
  (allCh n (n + 1)).all (fun ch => decide (ch = listTo (bitsS ch) n) && decide (bitsS ch < 2 ^ n)) &&
  ((List.range (2 ^ n)).all fun s => decide (listTo s n ∈ allCh n (n + 1))) && orderedB (allCh n (n + 1))

theorem choices_all : (List.range 7).all choicesB = true := by kernel_rfl

theorem choices_at {n : Nat} (hn : n ≤ 6) : (∀ ch ∈ allCh n (n + 1), ch = listTo (bitsS ch) n ∧ bitsS ch < 2 ^ n) ∧ (∀ s, s < 2 ^ n → listTo s n ∈ allCh n (n + 1)) ∧ orderedB (allCh n (n + 1)) = true := by
  have h := List.all_eq_true.1 choices_all n (List.mem_range.2 (by omega))
  unfold choicesB at h
  rw [Bool.and_eq_true, Bool.and_eq_true, List.all_eq_true, List.all_eq_true] at h
  obtain ⟨⟨h1, h2⟩, h3⟩ := h
  refine ⟨fun ch hc => ?_, fun s hs => ?_, h3⟩
  · simpa [Bool.and_eq_true] using h1 ch hc
  · simpa using h2 s (List.mem_range.2 hs)

theorem lessL_self : ∀ l, lessL l l = false
  | [] => rfl
  | x :: l => by unfold lessL; rw [if_pos rfl]; exact lessL_self l

theorem fewerL_self (l : List Int) : fewerL l l = false := by unfold fewerL; rw [if_pos rfl]; exact lessL_self l

theorem orderedB_split {pre post : List (List Int)} {x : List Int} : orderedB (pre ++ x :: post) = true → ∀ y ∈ post, fewerL y x = false := by
  induction pre with
  | nil =>
    intro h y hy
    simp only [List.nil_append, orderedB, Bool.and_eq_true, List.all_eq_true] at h
    simpa using h.1 y hy
  | cons p pre ih =>
    intro h
    simp only [List.cons_append, orderedB, Bool.and_eq_true] at h
    exact ih h.2

/-- What is found first: no choice that fits has fewer, or as many that come before. -/
theorem search_first {n : Nat} (hn : n ≤ 6) {q : List Int → Bool} {ch : List Int} (h : searchL n (n + 1) q = some ch) :
    q ch = true ∧ (∃ s, s < 2 ^ n ∧ ch = listTo s n) ∧ ∀ s, q (listTo s n) = true → fewerL (listTo s n) ch = false := by
  obtain ⟨c1, c2, c3⟩ := choices_at hn
  unfold searchL at h
  rw [List.find?_eq_some_iff_append] at h
  obtain ⟨hq, pre, post, he, hpre⟩ := h
  refine ⟨hq, ?_, fun s hs => ?_⟩
  · obtain ⟨q1, q2⟩ := c1 ch (by rw [he]; simp)
    exact ⟨_, q2, q1⟩
  · have hm : listTo (s % 2 ^ n) n ∈ allCh n (n + 1) := c2 _ (Nat.mod_lt _ (Nat.pow_pos (by decide)))
    rw [show listTo (s % 2 ^ n) n = listTo s n from listTo_congr fun i hi => by rw [Nat.testBit_mod_two_pow]; simp [hi], he] at hm
    rcases List.mem_append.1 hm with hm | hm
    · have := hpre _ hm
      rw [hs] at this; cases this
    · rcases List.mem_cons.1 hm with hm | hm
      · rw [hm]; exact fewerL_self _
      · exact orderedB_split (by rw [← he]; exact c3) _ hm

theorem search_none {n : Nat} (hn : n ≤ 6) {q : List Int → Bool} (h : searchL n (n + 1) q = none) (s : Nat) : q (listTo s n) = false := by
  obtain ⟨_, c2, _⟩ := choices_at hn
  unfold searchL at h
  rw [List.find?_eq_none] at h
  have hm : listTo (s % 2 ^ n) n ∈ allCh n (n + 1) := c2 _ (Nat.mod_lt _ (Nat.pow_pos (by decide)))
  rw [show listTo (s % 2 ^ n) n = listTo s n from listTo_congr fun i hi => by rw [Nat.testBit_mod_two_pow]; simp [hi]] at hm
  simpa using h _ hm

/-! ### Picked lists -/
theorem less_pick {l : List Int} (hl : l.Pairwise (· < ·)) : ∀ {a b : List Int}, (∀ i ∈ a, 0 ≤ i ∧ i < l.length) → (∀ i ∈ b, 0 ≤ i ∧ i < l.length) → lessL (pickL l a) (pickL l b) = lessL a b
  | _, [], _, _ => by
    rename_i a _ _
    cases a <;> rfl
  | [], _ :: _, _, _ => rfl
  | x :: a, y :: b, ha, hb => by
    have hx := ha x (by simp)
    have hy := hb y (by simp)
    have ih := less_pick hl (fun i hi => ha i (List.mem_cons_of_mem x hi)) (fun i hi => hb i (List.mem_cons_of_mem y hi)) (a := a) (b := b)
    have gx : l[x.toNat]! = l[x.toNat] := getD_idx (by omega)
    have gy : l[y.toNat]! = l[y.toNat] := getD_idx (by omega)
    have hpw := List.pairwise_iff_getElem.1 hl
    show lessL (l[x.toNat]! :: pickL l a) (l[y.toNat]! :: pickL l b) = _
    unfold lessL
    rcases Int.lt_trichotomy x y with h | h | h
    · have := hpw x.toNat y.toNat (by omega) (by omega) (by omega)
      rw [gx, gy, if_neg (by omega), if_neg (by omega)]
      simp; omega
    · subst h; rw [if_pos rfl, if_pos rfl]; exact ih
    · have := hpw y.toNat x.toNat (by omega) (by omega) (by omega)
      rw [gx, gy, if_neg (by omega), if_neg (by omega)]
      simp; omega

theorem fewer_pick {l : List Int} (hl : l.Pairwise (· < ·)) {a b : List Int} (ha : ∀ i ∈ a, 0 ≤ i ∧ i < l.length) (hb : ∀ i ∈ b, 0 ≤ i ∧ i < l.length) : fewerL (pickL l a) (pickL l b) = fewerL a b := by
  unfold fewerL
  rw [less_pick hl ha hb]
  simp [pickL]

theorem listTo_in {s n : Nat} : ∀ i ∈ listTo s n, 0 ≤ i ∧ i < n := by
  intro i hi
  obtain ⟨k, h1, _, rfl⟩ := mem_listTo.1 hi
  omega

theorem by_index (l : List Int) : (List.range l.length).map (fun i => l[i]!) = l := by
  apply List.ext_getElem
  · simp
  · intro i h1 h2
    simp only [List.getElem_map, List.getElem_range]
    exact getD_idx h2

/-- Some of a list are picked out of it. -/
theorem filter_pick (l : List Int) (g : Int → Bool) : l.filter g = pickL l (listTo (setOf (fun i => g l[i]!) l.length) l.length) := by
  unfold pickL listTo
  rw [List.map_map]
  conv => lhs; rw [← by_index l, List.filter_map]
  have : ((fun (i : Int) => l[i.toNat]!) ∘ fun (i : Nat) => (i : Int)) = fun i => l[i]! := by funext i; simp
  rw [this]
  congr 1
  refine List.filter_congr fun i hi => ?_
  rw [setOf_bit]
  simp [List.mem_range.1 hi]

theorem filter_listTo {s t n : Nat} {f : Int → Bool} (h : ∀ i, i < n → t.testBit i = (s.testBit i && f i)) : (listTo s n).filter f = listTo t n := by
  unfold listTo
  rw [List.filter_map, List.filter_filter]
  congr 1
  refine List.filter_congr fun i hi => ?_
  rw [h i (List.mem_range.1 hi)]
  simp [Bool.and_comm]

theorem pick_listTo {s n : Nat} {ch : List Int} (hn : n ≤ 6) (hc : ∃ t, ch = listTo t (listTo s n).length) : pickL (listTo s n) ch = listTo (bitsS (pickL (listTo s n) ch)) n ∧ ∀ i, i < n → (bitsS (pickL (listTo s n) ch)).testBit i = true → s.testBit i = true := by
  obtain ⟨t, rfl⟩ := hc
  have hm : ∀ x ∈ pickL (listTo s n) (listTo t (listTo s n).length), x ∈ listTo s n := fun x hx => pickL_mem hx fun i hi => by
    have := listTo_in i hi; omega
  have hb : ∀ i, (bitsS (pickL (listTo s n) (listTo t (listTo s n).length))).testBit i = true → i < n ∧ s.testBit i = true := fun i hi => by
    rw [bitsS_bit, List.any_eq_true] at hi
    obtain ⟨x, hx, e⟩ := hi
    obtain ⟨k, h1, h2, rfl⟩ := mem_listTo.1 (hm x hx)
    rw [decide_eq_true_eq, Int.toNat_natCast] at e
    subst e; exact ⟨h1, h2⟩
  refine ⟨?_, fun i _ hi => (hb i hi).2⟩
  have hf : pickL (listTo s n) (listTo t (listTo s n).length) = (listTo s n).filter fun x => decide (x ∈ pickL (listTo s n) (listTo t (listTo s n).length)) := by
    have hlen : (listTo s n).length ≤ 6 := by have := listTo_length s n; omega
    have hp := listTo_pair s n
    generalize listTo s n = l at *
    unfold pickL listTo
    rw [List.map_map]
    conv => rhs; rw [← by_index l, List.filter_map]
    have : ((fun (i : Int) => l[i.toNat]!) ∘ fun (i : Nat) => (i : Int)) = fun i => l[i]! := by funext i; simp
    rw [this, by_index]
    congr 1
    refine List.filter_congr fun i hi => ?_
    have hi' := List.mem_range.1 hi
    rw [Bool.eq_iff_iff]
    simp only [Function.comp, decide_eq_true_eq, List.mem_map, List.mem_filter, List.mem_range]
    constructor
    · intro h; exact ⟨i, ⟨hi', h⟩, rfl⟩
    · rintro ⟨j, ⟨h1, h2⟩, e⟩
      rw [Int.toNat_natCast, getD_idx h1, getD_idx hi'] at e
      have hpw := List.pairwise_iff_getElem.1 hp
      rcases Nat.lt_trichotomy i j with h | h | h
      · have := hpw i j hi' h1 h; omega
      · rw [h]; exact h2
      · have := hpw j i h1 hi' h; omega
  rw [hf]
  conv => rhs; rw [← hf]
  refine filter_listTo fun i hi => ?_
  rw [Bool.eq_iff_iff, Bool.and_eq_true, decide_eq_true_eq]
  constructor
  · intro h
    refine ⟨(hb i h).2, ?_⟩
    rw [bitsS_bit, List.any_eq_true] at h
    obtain ⟨x, hx, e⟩ := h
    obtain ⟨k, h1, h2, rfl⟩ := mem_listTo.1 (hm x hx)
    rw [decide_eq_true_eq, Int.toNat_natCast] at e
    subst e; exact hx
  · rintro ⟨_, h⟩
    rw [bitsS_bit, List.any_eq_true]
    exact ⟨i, h, by simp⟩
end Go.Proofs.Ytakkdmdkelbnjaa.Abs

/- The statement ChestKey: what its function does. -/
namespace Go.Proofs.Ytakkdmdkelbnjaa.Abs
set_option linter.unusedSimpArgs false
set_option maxHeartbeats 4000000
set_option maxRecDepth 100000
open Go Go.RowKit Go.Proofs

theorem VPure.of {P : Program} {g : FuncId} {xs : List AV} {r : AV} {K : AV → Prop} (h : PCall P g xs r) (hk : K r) : VPure P g xs K .mk := ⟨r, h, hk⟩

theorem number_lt (v : VChest) (hv : VOk v) {j : Nat} : ∀ d, j + d + 1 < v.copies.length → (v.copies[j]!).number < (v.copies[j + d + 1]!).number
  | 0, h => hv.rise j h
  | d + 1, h => by
    have h1 := number_lt v hv (j := j) d (by omega)
    have h2 := hv.rise (j + d + 1) (by omega)
    rw [show j + (d + 1) + 1 = j + d + 1 + 1 by omega]
    omega

theorem at_number (v : VChest) (hv : VOk v) {k : Nat} (h : k < v.copies.length) : atL v (v.copies[k]!).number = (k : Int) := by
  unfold atL
  refine idxL_at h (fun x hx => ?_) (by rw [getD_any h]; simp)
  obtain ⟨j, hj, rfl⟩ := List.mem_iff_getElem.1 hx
  have hj1 : j < k := by rw [List.length_take] at hj; omega
  rw [List.getElem_take]
  have := number_lt v hv (j := j) (k - j - 1) (by omega)
  have hj2 : j < v.copies.length := by omega
  rw [show j + (k - j - 1) + 1 = k by omega, getD_any hj2] at this
  rw [decide_eq_false_iff_not]; omega

theorem key_law (v : VChest) (hv : VOk v) {p k : Nat} (hp : p < v.people.length) (hk : k < v.copies.length) :
    ((v.copies[k]!).may.testBit p = false ∧ keyL v p (v.copies[k]!).number = ([], 2)) ∨
    ((v.copies[k]!).may.testBit p = true ∧ ((keyL v p (v.copies[k]!).number = ([], 9) ∧ ∀ s, decide (foundL v p (listTo s v.words) = [(k : Int)]) = false) ∨
      ∃ ch, keyL v p (v.copies[k]!).number = (ch, 0) ∧ (∃ s, s < 2 ^ v.words ∧ ch = listTo s v.words) ∧ decide (foundL v p ch = [(k : Int)]) = true ∧
        ∀ s, decide (foundL v p (listTo s v.words) = [(k : Int)]) = true → fewerL (listTo s v.words) ch = false)) := by
  have hw := hv.w
  have e : keyL v p (v.copies[k]!).number = if (v.copies[k]!).may.testBit p = false then ([], (2 : Int)) else match searchL v.words (v.words + 1) (keyQ v p k) with
      | some ch => (ch, (0 : Int))
      | none => ([], (9 : Int)) := by
    unfold keyL
    rw [at_number v hv hk, if_neg (by omega), Int.toNat_natCast, viewS_bit v p k hp]
    simp [hk]
    rfl
  rw [e]
  cases hb : (v.copies[k]!).may.testBit p with
  | false => left; exact ⟨rfl, if_pos rfl⟩
  | true =>
    right
    refine ⟨rfl, ?_⟩
    rw [if_neg (by decide)]
    have hq : ∀ ch, keyQ v p k ch = decide (foundL v p ch = [(k : Int)]) := fun ch => setOf_eq_list v hv p k ch hp hk
    cases hs : searchL v.words (v.words + 1) (keyQ v p k) with
    | none =>
      left
      exact ⟨rfl, fun s => by rw [← hq]; exact search_none (by omega) hs s⟩
    | some ch =>
      right
      obtain ⟨h1, h2, h3⟩ := search_first (by omega) hs
      exact ⟨ch, rfl, h2, by rw [← hq]; exact h1, fun s h => h3 s (by rw [hq]; exact h)⟩

theorem chestKey_bad (c : RChest) (hs : namesFit c) (hpl : c.people.length ≤ 9223372036854775807) (x y z : Nat) (h : ¬ ((checkR c).2.2 = 0 ∧ 0 < c.people.length)) :
    PCall Try.prog 9 [chestA c, .agg [.int .u8 x, .int .u8 y, .int .u8 z]] (.bool true) := by
  intro m
  have h1 := peopled_c c hs
  have e1 : (decide ((checkR c).2.2 = 0) && decide (0 < c.people.length)) = false := by
    rw [Bool.and_eq_false_iff, decide_eq_false_iff_not, decide_eq_false_iff_not]; omega
  rw [e1] at h1
  have h2 := key_top c hs 0 1 hpl
  have h3 := key_bad h 1
  generalize keyR c 0 1 = k at *
  simp only [chestA, chestL, strs, ints, List.map_nil] at *
  (refine acall_intro (E := env fun _ => .imm) (envOk _) rfl Try.func9 rfl Try.call9 (by kernel_rfl) (by simp [Try.ntmps9]) ?_; simp only [Try.f9];  simp (maxSteps := 4000000) only [↓VP0, ↓VP1, ↓VP2, VQ0, VQ1, VQ2, VQ3, VQ4, VT, ite_self, ite_split, Nat.reduceEqDiff, Nat.reduceAdd, Nat.reduceSub, Nat.reduceMul, Nat.reduceLeDiff, Nat.reduceLT, Nat.reduceBEq, Int.reduceLE, Int.reduceLT, Int.reduceNeg, Int.reduceAdd, Int.reduceSub, Int.reduceToNat, ↓reduceIte, reduceCtorEq])
  ((refine ACall.pure (h1) ?_; try simp (maxSteps := 4000000) only [↓VP0, ↓VP1, ↓VP2, VQ0, VQ1, VQ2, VQ3, VQ4, VT, ite_self, ite_split, Nat.reduceEqDiff, Nat.reduceAdd, Nat.reduceSub, Nat.reduceMul, Nat.reduceLeDiff, Nat.reduceLT, Nat.reduceBEq, Int.reduceLE, Int.reduceLT, Int.reduceNeg, Int.reduceAdd, Int.reduceSub, Int.reduceToNat, ↓reduceIte, reduceCtorEq]); try simp (maxSteps := 4000000) only [↓VP0, ↓VP1, ↓VP2, VQ0, VQ1, VQ2, VQ3, VQ4, VT, ite_self, ite_split, Nat.reduceEqDiff, Nat.reduceAdd, Nat.reduceSub, Nat.reduceMul, Nat.reduceLeDiff, Nat.reduceLT, Nat.reduceBEq, Int.reduceLE, Int.reduceLT, Int.reduceNeg, Int.reduceAdd, Int.reduceSub, Int.reduceToNat, ↓reduceIte, reduceCtorEq, eq_self, decide_true, decide_false, if_true, if_false, not_true_eq_false, List.append_eq])
  ((refine ACall.pure (h2) ?_; try simp (maxSteps := 4000000) only [↓VP0, ↓VP1, ↓VP2, VQ0, VQ1, VQ2, VQ3, VQ4, VT, ite_self, ite_split, Nat.reduceEqDiff, Nat.reduceAdd, Nat.reduceSub, Nat.reduceMul, Nat.reduceLeDiff, Nat.reduceLT, Nat.reduceBEq, Int.reduceLE, Int.reduceLT, Int.reduceNeg, Int.reduceAdd, Int.reduceSub, Int.reduceToNat, ↓reduceIte, reduceCtorEq]); try simp (maxSteps := 4000000) only [↓VP0, ↓VP1, ↓VP2, VQ0, VQ1, VQ2, VQ3, VQ4, VT, ite_self, ite_split, Nat.reduceEqDiff, Nat.reduceAdd, Nat.reduceSub, Nat.reduceMul, Nat.reduceLeDiff, Nat.reduceLT, Nat.reduceBEq, Int.reduceLE, Int.reduceLT, Int.reduceNeg, Int.reduceAdd, Int.reduceSub, Int.reduceToNat, ↓reduceIte, reduceCtorEq, eq_self, decide_true, decide_false, if_true, if_false, not_true_eq_false, List.append_eq])
  simp (maxSteps := 4000000) only [↓VP0, ↓VP1, ↓VP2, VQ0, VQ1, VQ2, VQ3, VQ4, VT, ite_self, ite_split, Nat.reduceEqDiff, Nat.reduceAdd, Nat.reduceSub, Nat.reduceMul, Nat.reduceLeDiff, Nat.reduceLT, Nat.reduceBEq, Int.reduceLE, Int.reduceLT, Int.reduceNeg, Int.reduceAdd, Int.reduceSub, Int.reduceToNat, ↓reduceIte, reduceCtorEq, h3]
  ((refine ACall.pure (awake_c) ?_; try simp (maxSteps := 4000000) only [↓VP0, ↓VP1, ↓VP2, VQ0, VQ1, VQ2, VQ3, VQ4, VT, ite_self, ite_split, Nat.reduceEqDiff, Nat.reduceAdd, Nat.reduceSub, Nat.reduceMul, Nat.reduceLeDiff, Nat.reduceLT, Nat.reduceBEq, Int.reduceLE, Int.reduceLT, Int.reduceNeg, Int.reduceAdd, Int.reduceSub, Int.reduceToNat, ↓reduceIte, reduceCtorEq]); try simp (maxSteps := 4000000) only [↓VP0, ↓VP1, ↓VP2, VQ0, VQ1, VQ2, VQ3, VQ4, VT, ite_self, ite_split, Nat.reduceEqDiff, Nat.reduceAdd, Nat.reduceSub, Nat.reduceMul, Nat.reduceLeDiff, Nat.reduceLT, Nat.reduceBEq, Int.reduceLE, Int.reduceLT, Int.reduceNeg, Int.reduceAdd, Int.reduceSub, Int.reduceToNat, ↓reduceIte, reduceCtorEq, eq_self, decide_true, decide_false, if_true, if_false, not_true_eq_false, List.append_eq])

theorem peopled_ok (v : VChest) (hv : VOk v) (hs : namesFit v.raw) (hp : 0 < v.people.length) : PCall Try.prog 36 [vchestA v] (.bool true) := by
  have h1 := peopled_c v.raw hs
  have e1 : (decide ((checkR v.raw).2.2 = 0) && decide (0 < v.raw.people.length)) = true := by
    rw [Bool.and_eq_true, decide_eq_true_eq, decide_eq_true_eq]; exact ⟨check_ok hv, hp⟩
  rwa [e1, vchestA_raw] at h1

theorem chestKey_none (v : VChest) (hv : VOk v) (hs : namesFit v.raw) (x y z : Nat) (hp : 0 < v.people.length) (hc : v.copies.length = 0) :
    PCall Try.prog 9 [vchestA v, .agg [.int .u8 x, .int .u8 y, .int .u8 z]] (.bool true) := by
  intro m
  have h3 := hv.p
  have h1 := peopled_ok v hv hs hp
  have h2 := key_top v.raw hs (0 : Nat) 1 (by show v.people.length ≤ _; omega)
  have e2 : keyL v 0 1 = ([], 7) := by
    have : v.copies = [] := List.length_eq_zero_iff.1 hc
    unfold keyL atL
    rw [this]; rfl
  rw [key_v hv hp, e2, vchestA_raw] at h2
  have hl : v.copies = [] := List.length_eq_zero_iff.1 hc
  simp only [vchestA, vchestL, strs, ints, List.map_nil, hl] at *
  (refine acall_intro (E := env fun _ => .imm) (envOk _) rfl Try.func9 rfl Try.call9 (by kernel_rfl) (by simp [Try.ntmps9]) ?_; simp only [Try.f9];  simp (maxSteps := 4000000) only [↓VP0, ↓VP1, ↓VP2, VQ0, VQ1, VQ2, VQ3, VQ4, VT, ite_self, ite_split, Nat.reduceEqDiff, Nat.reduceAdd, Nat.reduceSub, Nat.reduceMul, Nat.reduceLeDiff, Nat.reduceLT, Nat.reduceBEq, Int.reduceLE, Int.reduceLT, Int.reduceNeg, Int.reduceAdd, Int.reduceSub, Int.reduceToNat, ↓reduceIte, reduceCtorEq])
  ((refine ACall.pure (h1) ?_; try simp (maxSteps := 4000000) only [↓VP0, ↓VP1, ↓VP2, VQ0, VQ1, VQ2, VQ3, VQ4, VT, ite_self, ite_split, Nat.reduceEqDiff, Nat.reduceAdd, Nat.reduceSub, Nat.reduceMul, Nat.reduceLeDiff, Nat.reduceLT, Nat.reduceBEq, Int.reduceLE, Int.reduceLT, Int.reduceNeg, Int.reduceAdd, Int.reduceSub, Int.reduceToNat, ↓reduceIte, reduceCtorEq]); try simp (maxSteps := 4000000) only [↓VP0, ↓VP1, ↓VP2, VQ0, VQ1, VQ2, VQ3, VQ4, VT, ite_self, ite_split, Nat.reduceEqDiff, Nat.reduceAdd, Nat.reduceSub, Nat.reduceMul, Nat.reduceLeDiff, Nat.reduceLT, Nat.reduceBEq, Int.reduceLE, Int.reduceLT, Int.reduceNeg, Int.reduceAdd, Int.reduceSub, Int.reduceToNat, ↓reduceIte, reduceCtorEq, eq_self, decide_true, decide_false, if_true, if_false, not_true_eq_false, List.append_eq])
  repeat' (first | intro _ | refine And.intro ?_ ?_)
  all_goals try (first | omega | (simp only [List.length_map, List.length_cons, List.length_nil, List.length_append, Nat.zero_add]; omega) | exact Int.natCast_nonneg _ | exact Int.le_trans (by decide) (Int.natCast_nonneg _) | exact Nat.le_of_ble_eq_true rfl)
  ((refine ACall.pure (h2) ?_; try simp (maxSteps := 4000000) only [↓VP0, ↓VP1, ↓VP2, VQ0, VQ1, VQ2, VQ3, VQ4, VT, ite_self, ite_split, Nat.reduceEqDiff, Nat.reduceAdd, Nat.reduceSub, Nat.reduceMul, Nat.reduceLeDiff, Nat.reduceLT, Nat.reduceBEq, Int.reduceLE, Int.reduceLT, Int.reduceNeg, Int.reduceAdd, Int.reduceSub, Int.reduceToNat, ↓reduceIte, reduceCtorEq]); try simp (maxSteps := 4000000) only [↓VP0, ↓VP1, ↓VP2, VQ0, VQ1, VQ2, VQ3, VQ4, VT, ite_self, ite_split, Nat.reduceEqDiff, Nat.reduceAdd, Nat.reduceSub, Nat.reduceMul, Nat.reduceLeDiff, Nat.reduceLT, Nat.reduceBEq, Int.reduceLE, Int.reduceLT, Int.reduceNeg, Int.reduceAdd, Int.reduceSub, Int.reduceToNat, ↓reduceIte, reduceCtorEq, eq_self, decide_true, decide_false, if_true, if_false, not_true_eq_false, List.append_eq])
  repeat' (first | intro _ | refine And.intro ?_ ?_)
  all_goals try (first | omega | (simp only [List.length_map, List.length_cons, List.length_nil, List.length_append, Nat.zero_add]; omega) | exact Int.natCast_nonneg _ | exact Int.le_trans (by decide) (Int.natCast_nonneg _) | exact Nat.le_of_ble_eq_true rfl)
  ((refine ACall.pure (awake_c) ?_; try simp (maxSteps := 4000000) only [↓VP0, ↓VP1, ↓VP2, VQ0, VQ1, VQ2, VQ3, VQ4, VT, ite_self, ite_split, Nat.reduceEqDiff, Nat.reduceAdd, Nat.reduceSub, Nat.reduceMul, Nat.reduceLeDiff, Nat.reduceLT, Nat.reduceBEq, Int.reduceLE, Int.reduceLT, Int.reduceNeg, Int.reduceAdd, Int.reduceSub, Int.reduceToNat, ↓reduceIte, reduceCtorEq]); try simp (maxSteps := 4000000) only [↓VP0, ↓VP1, ↓VP2, VQ0, VQ1, VQ2, VQ3, VQ4, VT, ite_self, ite_split, Nat.reduceEqDiff, Nat.reduceAdd, Nat.reduceSub, Nat.reduceMul, Nat.reduceLeDiff, Nat.reduceLT, Nat.reduceBEq, Int.reduceLE, Int.reduceLT, Int.reduceNeg, Int.reduceAdd, Int.reduceSub, Int.reduceToNat, ↓reduceIte, reduceCtorEq, eq_self, decide_true, decide_false, if_true, if_false, not_true_eq_false, List.append_eq])

end Go.Proofs.Ytakkdmdkelbnjaa.Abs

/- Laws: what can be told has what the copies have, is closed under the rules, and is the least of all such. -/
namespace Go.Proofs.Ytakkdmdkelbnjaa.Abs
set_option linter.unusedSimpArgs false
open Go Go.RowKit Go.Proofs

theorem addR_sub {t s : Nat} {r : VRule} (hr : subS r.if_ t = true → t.testBit r.then_ = true) (h : ∀ i, s.testBit i = true → t.testBit i = true) : ∀ i, (addR s r).testBit i = true → t.testBit i = true := by
  intro i hi
  unfold addR at hi
  split at hi
  · rename_i h1
    rw [Nat.testBit_or, Bool.or_eq_true, Nat.testBit_two_pow, decide_eq_true_eq] at hi
    rcases hi with hi | hi
    · exact h i hi
    · subst hi
      exact hr (subS_iff.2 fun j hj => h j (subS_iff.1 h1 j hj))
  · exact h i hi

theorem foldl_sub {t : Nat} : ∀ {l : List VRule} {s : Nat}, (∀ r ∈ l, subS r.if_ t = true → t.testBit r.then_ = true) → (∀ i, s.testBit i = true → t.testBit i = true) → ∀ i, (l.foldl addR s).testBit i = true → t.testBit i = true
  | [], _, _, h => h
  | r :: l, s, hc, h => foldl_sub (l := l) (fun x hx => hc x (List.mem_cons_of_mem _ hx)) (addR_sub (hc r (by simp)) h)

theorem iter_sub (v : VChest) {t : Nat} (hc : ∀ r ∈ v.rules, subS r.if_ t = true → t.testBit r.then_ = true) {s : Nat} (h : ∀ i, s.testBit i = true → t.testBit i = true) : ∀ n i, (iterN (passL v) n s).testBit i = true → t.testBit i = true
  | 0 => h
  | n + 1 => by
    intro i hi
    have ih := iter_sub v hc h n
    refine foldl_sub (l := v.rules.take v.rules.length) (fun r hr => hc r (List.mem_of_mem_take hr)) ih i hi

theorem foldl_fix : ∀ {l : List VRule} {s : Nat}, l.foldl addR s = s → ∀ r ∈ l, addR s r = s
  | [], _, _ => by simp
  | r :: l, s, h => by
    have h1 : addR s r = s := sub_antisymm (fun i hi => by
      have := sub_foldl l (addR s r) i hi
      rw [show l.foldl addR (addR s r) = s from h] at this
      exact this) (fun i hi => sub_addR s r i hi)
    intro x hx
    rcases List.mem_cons.1 hx with rfl | hx
    · exact h1
    · exact foldl_fix (l := l) (by have h2 : l.foldl addR (addR s r) = s := h; rwa [h1] at h2) x hx

theorem told_closed (v : VChest) (hv : VOk v) (set : Nat) : ∀ r ∈ v.rules, subS r.if_ (tellS v set) = true → (tellS v set).testBit r.then_ = true := by
  intro r hr h
  have h1 : v.rules.foldl addR (tellS v set) = tellS v set := by
    have := tellS_fix v hv set
    unfold passL passTo at this
    rwa [List.take_length] at this
  have h2 := foldl_fix h1 r hr
  unfold addR at h2
  rw [if_pos h] at h2
  rw [← h2, Nat.testBit_or, Nat.testBit_two_pow]; simp

theorem sub_iter (v : VChest) (s i : Nat) (h : s.testBit i = true) : ∀ n, (iterN (passL v) n s).testBit i = true
  | 0 => h
  | n + 1 => sub_passTo v _ _ i (sub_iter v s i h n)

theorem baseTo_iff (v : VChest) (set f : Nat) : ∀ n, (baseTo v set n).testBit f = true ↔ ∃ i, i < n ∧ set.testBit i = true ∧ (v.copies[i]!).facts.testBit f = true
  | 0 => by simp [baseTo]
  | n + 1 => by
    have ih := baseTo_iff v set f n
    unfold baseTo
    split
    · rename_i h
      rw [Nat.testBit_or, Bool.or_eq_true, ih]
      constructor
      · rintro (⟨i, h1, h2⟩ | h1)
        · exact ⟨i, by omega, h2⟩
        · exact ⟨n, by omega, h, h1⟩
      · rintro ⟨i, h1, h2, h3⟩
        by_cases e : i = n
        · subst e; exact .inr h3
        · exact .inl ⟨i, by omega, h2, h3⟩
    · rename_i h
      rw [ih]
      constructor
      · rintro ⟨i, h1, h2⟩; exact ⟨i, by omega, h2⟩
      · rintro ⟨i, h1, h2, h3⟩
        by_cases e : i = n
        · subst e; exact absurd h2 h
        · exact ⟨i, by omega, h2, h3⟩

theorem told_hold (v : VChest) {set i f : Nat} (hi : i < v.copies.length) (hs : set.testBit i = true) (hf : (v.copies[i]!).facts.testBit f = true) : (tellS v set).testBit f = true :=
  sub_iter v _ f ((baseTo_iff v set f _).2 ⟨i, hi, hs, hf⟩) _

theorem told_least (v : VChest) {set t : Nat} (hb : ∀ i f, i < v.copies.length → set.testBit i = true → (v.copies[i]!).facts.testBit f = true → t.testBit f = true)
    (hc : ∀ r ∈ v.rules, subS r.if_ t = true → t.testBit r.then_ = true) : ∀ i, (tellS v set).testBit i = true → t.testBit i = true :=
  iter_sub v hc (fun f hf => by obtain ⟨i, h1, h2, h3⟩ := (baseTo_iff v set f _).1 hf; exact hb i f h1 h2 h3) _

theorem told_mono (v : VChest) (hv : VOk v) {a b : Nat} (h : ∀ i, i < v.copies.length → a.testBit i = true → b.testBit i = true) : ∀ i, (tellS v a).testBit i = true → (tellS v b).testBit i = true :=
  told_least v (fun i f h1 h2 h3 => told_hold v h1 (h i h1 h2) h3) (told_closed v hv b)

theorem facts_lt (v : VChest) (hv : VOk v) {i : Nat} (h : i < v.copies.length) : (v.copies[i]!).facts < 2 ^ v.facts := by
  rw [getD_any h]; exact (hv.copy _ (List.getElem_mem h)).2.2.2.1

theorem bit_lt {s n i : Nat} (hs : s < 2 ^ n) (h : s.testBit i = true) : i < n := by
  apply Decidable.byContradiction; intro hge
  rw [Nat.testBit_lt_two_pow (Nat.lt_of_lt_of_le hs (Nat.pow_le_pow_right (by decide) (by omega)))] at h; cases h

/-- Only the copies that there are count. -/
theorem told_mod (v : VChest) (hv : VOk v) (s : Nat) : tellS v (s % 2 ^ v.copies.length) = tellS v s :=
  sub_antisymm (told_mono v hv fun i hi h => by rw [Nat.testBit_mod_two_pow] at h; simpa [hi] using h) (told_mono v hv fun i hi h => by rw [Nat.testBit_mod_two_pow]; simp [hi, h])

/-- What can be told from a list of copies. -/
theorem tell_list (v : VChest) (hv : VOk v) (s : Nat) : listS (tellS v (bitsS (listTo s v.copies.length))) = listTo (tellS v s) v.facts := by
  rw [bitsS_listTo_mod, told_mod v hv, tell_set v hv]
end Go.Proofs.Ytakkdmdkelbnjaa.Abs

/- The statement ChestMore: what its function does. -/
namespace Go.Proofs.Ytakkdmdkelbnjaa.Abs
set_option linter.unusedSimpArgs false
set_option maxHeartbeats 4000000
set_option maxRecDepth 100000
open Go Go.RowKit Go.Proofs

theorem valid_ok (v : VChest) (hv : VOk v) (hs : namesFit v.raw) : PCall Try.prog 42 [vchestA v] (.bool true) := by
  have h1 := valid_c v.raw hs
  rwa [decide_eq_true (check_ok hv), vchestA_raw] at h1

theorem valid_bad (c : RChest) (hs : namesFit c) (h : ¬ (checkR c).2.2 = 0) : PCall Try.prog 42 [chestA c] (.bool false) := by
  have h1 := valid_c c hs
  rwa [decide_eq_false h] at h1

theorem knows_ok (v : VChest) (hv : VOk v) (hs : namesFit v.raw) (s : Nat) : PCall Try.prog 27 [vchestA v, ints (listTo s v.copies.length)] (.tuple [ints (listTo (tellS v s) v.facts), .int .i64 0]) := by
  have q1 := knows_top v.raw hs (listTo s v.copies.length)
  rwa [vchestA_raw, knows_v hv (listE_listTo s _), tell_list v hv] at q1

theorem find_ok (v : VChest) (hv : VOk v) (hs : namesFit v.raw) {p : Nat} (hp : p < v.people.length) (s : Nat) :
    PCall Try.prog 22 [vchestA v, .int .i64 p, ints (listTo s v.words)] (.tuple [ints (listTo (findS v p (bitsS (listTo s v.words))) v.copies.length), .int .i64 0]) := by
  have h3 := hv.p
  have h2 := find_top v.raw hs (p : Nat) (listTo s v.words) (by show v.people.length ≤ _; omega)
  rwa [vchestA_raw, find_v hv hp (listE_listTo s v.words), found_set v hv hp] at h2

theorem or8 {x y : Nat} (hx : x < 256) (hy : y < 256) : x ||| y < 256 := Nat.or_lt_two_pow (n := 8) hx hy
theorem and8 {x y : Nat} (hx : x < 256) : x &&& y < 256 := Nat.lt_of_le_of_lt Nat.and_le_left hx

theorem subset_ok {s t n m : Nat} (h : n ≤ m) (hs : ∀ i, i < n → s.testBit i = true → t.testBit i = true) : PCall Try.prog 43 [ints (listTo s n), ints (listTo t m)] (.bool true) := by
  have s1 := subset_c (listTo s n) (listTo t m)
  rwa [(sub_listTo s t n m h).2 hs] at s1

theorem has_at {s n i : Nat} (h : i < n) : PCall Try.prog 40 [ints (listTo s n), .int .i64 i] (.bool (s.testBit i)) := by
  have h1 := has_c (listTo s n) (i : Int)
  rwa [in_listTo, decide_eq_true h, Bool.true_and] at h1

theorem rising_ok (s n : Nat) : PCall Try.prog 38 [ints (listTo s n), .int .i64 n] (.bool true) := by
  have h1 := rising_c (listTo s n) n
  rwa [rising_listTo _ _ _ (Nat.le_refl _)] at h1

theorem chestMore_bad (c : RChest) (hs : namesFit c) (x y z p q : Nat) (h : ¬ (checkR c).2.2 = 0) :
    PCall Try.prog 10 [chestA c, .agg [.int .u8 x, .int .u8 y, .int .u8 z, .int .u8 p, .int .u8 q]] (.bool true) := by
  intro m
  have h1 := valid_bad c hs h
  have h2 := knows_top c hs []
  have h3 := knows_bad h []
  generalize knowsR c [] = k at *
  simp only [chestA, chestL, strs, ints, List.map_nil] at *
  (refine acall_intro (E := env fun _ => .imm) (envOk _) rfl Try.func10 rfl Try.call10 (by kernel_rfl) (by simp [Try.ntmps10]) ?_; simp only [Try.f10];  simp (maxSteps := 4000000) only [↓VP0, ↓VP1, ↓VP2, VQ0, VQ1, VQ2, VQ3, VQ4, VT, ite_self, ite_split, Nat.reduceEqDiff, Nat.reduceAdd, Nat.reduceSub, Nat.reduceMul, Nat.reduceLeDiff, Nat.reduceLT, Nat.reduceBEq, Int.reduceLE, Int.reduceLT, Int.reduceNeg, Int.reduceAdd, Int.reduceSub, Int.reduceToNat, ↓reduceIte, reduceCtorEq])
  ((refine ACall.pure (h1) ?_; try simp (maxSteps := 4000000) only [↓VP0, ↓VP1, ↓VP2, VQ0, VQ1, VQ2, VQ3, VQ4, VT, ite_self, ite_split, Nat.reduceEqDiff, Nat.reduceAdd, Nat.reduceSub, Nat.reduceMul, Nat.reduceLeDiff, Nat.reduceLT, Nat.reduceBEq, Int.reduceLE, Int.reduceLT, Int.reduceNeg, Int.reduceAdd, Int.reduceSub, Int.reduceToNat, ↓reduceIte, reduceCtorEq]); try simp (maxSteps := 4000000) only [↓VP0, ↓VP1, ↓VP2, VQ0, VQ1, VQ2, VQ3, VQ4, VT, ite_self, ite_split, Nat.reduceEqDiff, Nat.reduceAdd, Nat.reduceSub, Nat.reduceMul, Nat.reduceLeDiff, Nat.reduceLT, Nat.reduceBEq, Int.reduceLE, Int.reduceLT, Int.reduceNeg, Int.reduceAdd, Int.reduceSub, Int.reduceToNat, ↓reduceIte, reduceCtorEq, eq_self, decide_true, decide_false, if_true, if_false, not_true_eq_false, List.append_eq])
  ((refine ACall.pure (h2) ?_; try simp (maxSteps := 4000000) only [↓VP0, ↓VP1, ↓VP2, VQ0, VQ1, VQ2, VQ3, VQ4, VT, ite_self, ite_split, Nat.reduceEqDiff, Nat.reduceAdd, Nat.reduceSub, Nat.reduceMul, Nat.reduceLeDiff, Nat.reduceLT, Nat.reduceBEq, Int.reduceLE, Int.reduceLT, Int.reduceNeg, Int.reduceAdd, Int.reduceSub, Int.reduceToNat, ↓reduceIte, reduceCtorEq]); try simp (maxSteps := 4000000) only [↓VP0, ↓VP1, ↓VP2, VQ0, VQ1, VQ2, VQ3, VQ4, VT, ite_self, ite_split, Nat.reduceEqDiff, Nat.reduceAdd, Nat.reduceSub, Nat.reduceMul, Nat.reduceLeDiff, Nat.reduceLT, Nat.reduceBEq, Int.reduceLE, Int.reduceLT, Int.reduceNeg, Int.reduceAdd, Int.reduceSub, Int.reduceToNat, ↓reduceIte, reduceCtorEq, eq_self, decide_true, decide_false, if_true, if_false, not_true_eq_false, List.append_eq])
  simp (maxSteps := 4000000) only [↓VP0, ↓VP1, ↓VP2, VQ0, VQ1, VQ2, VQ3, VQ4, VT, ite_self, ite_split, Nat.reduceEqDiff, Nat.reduceAdd, Nat.reduceSub, Nat.reduceMul, Nat.reduceLeDiff, Nat.reduceLT, Nat.reduceBEq, Int.reduceLE, Int.reduceLT, Int.reduceNeg, Int.reduceAdd, Int.reduceSub, Int.reduceToNat, ↓reduceIte, reduceCtorEq, h3]
  ((refine ACall.pure (awake_c) ?_; try simp (maxSteps := 4000000) only [↓VP0, ↓VP1, ↓VP2, VQ0, VQ1, VQ2, VQ3, VQ4, VT, ite_self, ite_split, Nat.reduceEqDiff, Nat.reduceAdd, Nat.reduceSub, Nat.reduceMul, Nat.reduceLeDiff, Nat.reduceLT, Nat.reduceBEq, Int.reduceLE, Int.reduceLT, Int.reduceNeg, Int.reduceAdd, Int.reduceSub, Int.reduceToNat, ↓reduceIte, reduceCtorEq]); try simp (maxSteps := 4000000) only [↓VP0, ↓VP1, ↓VP2, VQ0, VQ1, VQ2, VQ3, VQ4, VT, ite_self, ite_split, Nat.reduceEqDiff, Nat.reduceAdd, Nat.reduceSub, Nat.reduceMul, Nat.reduceLeDiff, Nat.reduceLT, Nat.reduceBEq, Int.reduceLE, Int.reduceLT, Int.reduceNeg, Int.reduceAdd, Int.reduceSub, Int.reduceToNat, ↓reduceIte, reduceCtorEq, eq_self, decide_true, decide_false, if_true, if_false, not_true_eq_false, List.append_eq])

theorem chestMore_ok (v : VChest) (hv : VOk v) (hs : namesFit v.raw) (x a b c d : Nat) (hx : x < 256) (ha : a < 256) (hb : b < 256) (hc : c < 256) (hd : d < 256) :
    PCall Try.prog 10 [vchestA v, .agg [.int .u8 x, .int .u8 a, .int .u8 b, .int .u8 c, .int .u8 d]] (.bool true) := by
  intro m
  have h3 := hv.p
  have hc6 := hv.c
  have hw5 := hv.w
  have h1 := valid_ok v hv hs
  have k1 := lawbits_c a v.copies.length ha (by omega)
  have k2 := lawbits_c (a ||| b) v.copies.length (or8 ha hb) (by omega)
  have k3 := lawbits_c c v.words hc (by omega)
  have k4 := lawbits_c (c ||| d) v.words (or8 hc hd) (by omega)
  have q1 := knows_ok v hv hs a
  have q2 := knows_ok v hv hs (a ||| b)
  have s1 : PCall Try.prog 43 [ints (listTo (tellS v a) v.facts), ints (listTo (tellS v (a ||| b)) v.facts)] (.bool true) :=
    subset_ok (Nat.le_refl _) fun i _ hi => told_mono v hv (fun j _ h => by rw [Nat.testBit_or, h]; rfl) i hi
  have aw := awake_c
  by_cases hp : v.people.length = 0
  · simp only [vchestA, vchestL, strs, ints, List.map_nil] at *
    (refine acall_intro (E := env fun _ => .imm) (envOk _) rfl Try.func10 rfl Try.call10 (by kernel_rfl) (by simp [Try.ntmps10]) ?_; simp only [Try.f10];  simp (maxSteps := 4000000) only [↓VP0, ↓VP1, ↓VP2, VQ0, VQ1, VQ2, VQ3, VQ4, VT, ite_self, ite_split, Nat.reduceEqDiff, Nat.reduceAdd, Nat.reduceSub, Nat.reduceMul, Nat.reduceLeDiff, Nat.reduceLT, Nat.reduceBEq, Int.reduceLE, Int.reduceLT, Int.reduceNeg, Int.reduceAdd, Int.reduceSub, Int.reduceToNat, ↓reduceIte, reduceCtorEq])
    ((refine ACall.pure (h1) ?_; try simp (maxSteps := 4000000) only [↓VP0, ↓VP1, ↓VP2, VQ0, VQ1, VQ2, VQ3, VQ4, VT, ite_self, ite_split, Nat.reduceEqDiff, Nat.reduceAdd, Nat.reduceSub, Nat.reduceMul, Nat.reduceLeDiff, Nat.reduceLT, Nat.reduceBEq, Int.reduceLE, Int.reduceLT, Int.reduceNeg, Int.reduceAdd, Int.reduceSub, Int.reduceToNat, ↓reduceIte, reduceCtorEq]); try simp (maxSteps := 4000000) only [↓VP0, ↓VP1, ↓VP2, VQ0, VQ1, VQ2, VQ3, VQ4, VT, ite_self, ite_split, Nat.reduceEqDiff, Nat.reduceAdd, Nat.reduceSub, Nat.reduceMul, Nat.reduceLeDiff, Nat.reduceLT, Nat.reduceBEq, Int.reduceLE, Int.reduceLT, Int.reduceNeg, Int.reduceAdd, Int.reduceSub, Int.reduceToNat, ↓reduceIte, reduceCtorEq, eq_self, decide_true, decide_false, if_true, if_false, not_true_eq_false, List.append_eq])
    (refine adraw (by first | exact envOk _ | exact envCOk _ _ _) mixed [⟨false, false, 0⟩, ⟨false, false, 0⟩, ⟨false, false, 0⟩, ⟨false, false, 0⟩, ⟨false, false, 0⟩, ⟨false, false, 0⟩, ⟨false, false, 0⟩, ⟨false, false, 0⟩, ⟨false, false, 0⟩, ⟨false, false, 0⟩, ⟨false, false, 0⟩, ⟨false, false, 0⟩, ⟨false, false, 0⟩, ⟨false, false, 0⟩, ⟨false, false, 0⟩, ⟨false, false, 0⟩, ⟨false, false, 0⟩] (by kernel_rfl) ?_; show vcOpsD _ _ _ (_ :: _) _ _)
    simp (maxSteps := 4000000) only [↓VP0, ↓VP1, ↓VP2, VQ0, VQ1, VQ2, VQ3, VQ4, VT, ite_self, ite_split, Nat.reduceEqDiff, Nat.reduceAdd, Nat.reduceSub, Nat.reduceMul, Nat.reduceLeDiff, Nat.reduceLT, Nat.reduceBEq, Int.reduceLE, Int.reduceLT, Int.reduceNeg, Int.reduceAdd, Int.reduceSub, Int.reduceToNat, ↓reduceIte, reduceCtorEq]
    (repeat' (first | intro _ | refine And.intro ?_ ?_ | ((refine ACall.pure (by with_reducible assumption) ?_; try simp (maxSteps := 4000000) only [↓VP0, ↓VP1, ↓VP2, VQ0, VQ1, VQ2, VQ3, VQ4, VT, ite_self, ite_split, Nat.reduceEqDiff, Nat.reduceAdd, Nat.reduceSub, Nat.reduceMul, Nat.reduceLeDiff, Nat.reduceLT, Nat.reduceBEq, Int.reduceLE, Int.reduceLT, Int.reduceNeg, Int.reduceAdd, Int.reduceSub, Int.reduceToNat, ↓reduceIte, reduceCtorEq]); try simp (maxSteps := 4000000) only [↓VP0, ↓VP1, ↓VP2, VQ0, VQ1, VQ2, VQ3, VQ4, VT, ite_self, ite_split, Nat.reduceEqDiff, Nat.reduceAdd, Nat.reduceSub, Nat.reduceMul, Nat.reduceLeDiff, Nat.reduceLT, Nat.reduceBEq, Int.reduceLE, Int.reduceLT, Int.reduceNeg, Int.reduceAdd, Int.reduceSub, Int.reduceToNat, ↓reduceIte, reduceCtorEq, eq_self, decide_true, decide_false, if_true, if_false, not_true_eq_false, List.append_eq]) | (refine VPure.of (by with_reducible assumption) ?_; try simp (maxSteps := 4000000) only [↓VP0, ↓VP1, ↓VP2, VQ0, VQ1, VQ2, VQ3, VQ4, VT, ite_self, ite_split, Nat.reduceEqDiff, Nat.reduceAdd, Nat.reduceSub, Nat.reduceMul, Nat.reduceLeDiff, Nat.reduceLT, Nat.reduceBEq, Int.reduceLE, Int.reduceLT, Int.reduceNeg, Int.reduceAdd, Int.reduceSub, Int.reduceToNat, ↓reduceIte, reduceCtorEq, eq_self, decide_true, decide_false, if_true, if_false, not_true_eq_false, List.append_eq])))
    all_goals try (first | omega | (simp only [List.length_map, List.length_cons, List.length_nil, List.length_append, Nat.zero_add]; omega) | exact Int.natCast_nonneg _ | exact Int.le_trans (by decide) (Int.natCast_nonneg _) | exact Nat.le_of_ble_eq_true rfl)
  · have hpp : x % v.people.length < v.people.length := Nat.mod_lt _ (by omega)
    have r1 := find_ok v hv hs hpp c
    have r2 := find_ok v hv hs hpp (c ||| d)
    have s2 : PCall Try.prog 43 [ints (listTo (findS v (x % v.people.length) (bitsS (listTo (c ||| d) v.words))) v.copies.length), ints (listTo (findS v (x % v.people.length) (bitsS (listTo c v.words))) v.copies.length)] (.bool true) :=
      subset_ok (Nat.le_refl _) fun i hi h => by
        rw [findS_bit v hpp, decide_eq_true hi, Bool.true_and, Bool.and_eq_true, subS_iff] at h ⊢
        refine ⟨h.1, fun j hj => h.2 j ?_⟩
        rw [bitsS_listTo_mod, Nat.testBit_mod_two_pow] at hj ⊢
        rw [Bool.and_eq_true] at hj ⊢
        exact ⟨hj.1, by rw [Nat.testBit_or, hj.2]; rfl⟩
    generalize hP : x % v.people.length = p at *
    simp only [vchestA, vchestL, strs, ints, List.map_nil] at *
    (refine acall_intro (E := env fun _ => .imm) (envOk _) rfl Try.func10 rfl Try.call10 (by kernel_rfl) (by simp [Try.ntmps10]) ?_; simp only [Try.f10];  simp (maxSteps := 4000000) only [↓VP0, ↓VP1, ↓VP2, VQ0, VQ1, VQ2, VQ3, VQ4, VT, ite_self, ite_split, Nat.reduceEqDiff, Nat.reduceAdd, Nat.reduceSub, Nat.reduceMul, Nat.reduceLeDiff, Nat.reduceLT, Nat.reduceBEq, Int.reduceLE, Int.reduceLT, Int.reduceNeg, Int.reduceAdd, Int.reduceSub, Int.reduceToNat, ↓reduceIte, reduceCtorEq])
    ((refine ACall.pure (h1) ?_; try simp (maxSteps := 4000000) only [↓VP0, ↓VP1, ↓VP2, VQ0, VQ1, VQ2, VQ3, VQ4, VT, ite_self, ite_split, Nat.reduceEqDiff, Nat.reduceAdd, Nat.reduceSub, Nat.reduceMul, Nat.reduceLeDiff, Nat.reduceLT, Nat.reduceBEq, Int.reduceLE, Int.reduceLT, Int.reduceNeg, Int.reduceAdd, Int.reduceSub, Int.reduceToNat, ↓reduceIte, reduceCtorEq]); try simp (maxSteps := 4000000) only [↓VP0, ↓VP1, ↓VP2, VQ0, VQ1, VQ2, VQ3, VQ4, VT, ite_self, ite_split, Nat.reduceEqDiff, Nat.reduceAdd, Nat.reduceSub, Nat.reduceMul, Nat.reduceLeDiff, Nat.reduceLT, Nat.reduceBEq, Int.reduceLE, Int.reduceLT, Int.reduceNeg, Int.reduceAdd, Int.reduceSub, Int.reduceToNat, ↓reduceIte, reduceCtorEq, eq_self, decide_true, decide_false, if_true, if_false, not_true_eq_false, List.append_eq])
    (refine adraw (by first | exact envOk _ | exact envCOk _ _ _) mixed [⟨false, false, 0⟩, ⟨false, false, 0⟩, ⟨false, false, 0⟩, ⟨false, false, 0⟩, ⟨false, false, 0⟩, ⟨false, false, 0⟩, ⟨false, false, 0⟩, ⟨false, false, 0⟩, ⟨false, false, 0⟩, ⟨false, false, 0⟩, ⟨false, false, 0⟩, ⟨false, false, 0⟩, ⟨false, false, 0⟩, ⟨false, false, 0⟩, ⟨false, false, 0⟩, ⟨false, false, 0⟩, ⟨false, false, 0⟩] (by kernel_rfl) ?_; show vcOpsD _ _ _ (_ :: _) _ _)
    simp (maxSteps := 4000000) only [↓VP0, ↓VP1, ↓VP2, VQ0, VQ1, VQ2, VQ3, VQ4, VT, ite_self, ite_split, Nat.reduceEqDiff, Nat.reduceAdd, Nat.reduceSub, Nat.reduceMul, Nat.reduceLeDiff, Nat.reduceLT, Nat.reduceBEq, Int.reduceLE, Int.reduceLT, Int.reduceNeg, Int.reduceAdd, Int.reduceSub, Int.reduceToNat, ↓reduceIte, reduceCtorEq]
    (repeat' (first | intro _ | refine And.intro ?_ ?_ | (refine ACall.pure (by with_reducible assumption) ?_; try simp (maxSteps := 4000000) only [↓VP0, ↓VP1, ↓VP2, VQ0, VQ1, VQ2, VQ3, VQ4, VT, ite_self, ite_split, Nat.reduceEqDiff, Nat.reduceAdd, Nat.reduceSub, Nat.reduceMul, Nat.reduceLeDiff, Nat.reduceLT, Nat.reduceBEq, Int.reduceLE, Int.reduceLT, Int.reduceNeg, Int.reduceAdd, Int.reduceSub, Int.reduceToNat, ↓reduceIte, reduceCtorEq, eq_self, decide_true, decide_false, if_true, if_false, not_true_eq_false, List.append_eq, natMod, hP]) | (refine VPure.of (by with_reducible assumption) ?_; try simp (maxSteps := 4000000) only [↓VP0, ↓VP1, ↓VP2, VQ0, VQ1, VQ2, VQ3, VQ4, VT, ite_self, ite_split, Nat.reduceEqDiff, Nat.reduceAdd, Nat.reduceSub, Nat.reduceMul, Nat.reduceLeDiff, Nat.reduceLT, Nat.reduceBEq, Int.reduceLE, Int.reduceLT, Int.reduceNeg, Int.reduceAdd, Int.reduceSub, Int.reduceToNat, ↓reduceIte, reduceCtorEq, eq_self, decide_true, decide_false, if_true, if_false, not_true_eq_false, List.append_eq, natMod, hP])))
    all_goals try (first | omega | (simp only [List.length_map, List.length_cons, List.length_nil, List.length_append, Nat.zero_add]; omega) | exact Int.natCast_nonneg _ | exact Int.le_trans (by decide) (Int.natCast_nonneg _) | exact Nat.le_of_ble_eq_true rfl)
    (refine adraw (by first | exact envOk _ | exact envCOk _ _ _) mixed [⟨false, false, 0⟩, ⟨false, false, 0⟩, ⟨false, false, 0⟩, ⟨false, false, 0⟩, ⟨false, false, 0⟩, ⟨false, false, 0⟩, ⟨false, false, 0⟩, ⟨false, false, 0⟩, ⟨false, false, 0⟩, ⟨false, false, 0⟩, ⟨false, false, 0⟩, ⟨false, false, 0⟩, ⟨false, false, 0⟩] (by kernel_rfl) ?_; show vcOpsD _ _ _ (_ :: _) _ _)
    simp (maxSteps := 4000000) only [↓VP0, ↓VP1, ↓VP2, VQ0, VQ1, VQ2, VQ3, VQ4, VT, ite_self, ite_split, Nat.reduceEqDiff, Nat.reduceAdd, Nat.reduceSub, Nat.reduceMul, Nat.reduceLeDiff, Nat.reduceLT, Nat.reduceBEq, Int.reduceLE, Int.reduceLT, Int.reduceNeg, Int.reduceAdd, Int.reduceSub, Int.reduceToNat, ↓reduceIte, reduceCtorEq, natMod, hP]
    (repeat' (first | intro _ | refine And.intro ?_ ?_ | (refine ACall.pure (by with_reducible assumption) ?_; try simp (maxSteps := 4000000) only [↓VP0, ↓VP1, ↓VP2, VQ0, VQ1, VQ2, VQ3, VQ4, VT, ite_self, ite_split, Nat.reduceEqDiff, Nat.reduceAdd, Nat.reduceSub, Nat.reduceMul, Nat.reduceLeDiff, Nat.reduceLT, Nat.reduceBEq, Int.reduceLE, Int.reduceLT, Int.reduceNeg, Int.reduceAdd, Int.reduceSub, Int.reduceToNat, ↓reduceIte, reduceCtorEq, eq_self, decide_true, decide_false, if_true, if_false, not_true_eq_false, List.append_eq, natMod, hP]) | (refine VPure.of (by with_reducible assumption) ?_; try simp (maxSteps := 4000000) only [↓VP0, ↓VP1, ↓VP2, VQ0, VQ1, VQ2, VQ3, VQ4, VT, ite_self, ite_split, Nat.reduceEqDiff, Nat.reduceAdd, Nat.reduceSub, Nat.reduceMul, Nat.reduceLeDiff, Nat.reduceLT, Nat.reduceBEq, Int.reduceLE, Int.reduceLT, Int.reduceNeg, Int.reduceAdd, Int.reduceSub, Int.reduceToNat, ↓reduceIte, reduceCtorEq, eq_self, decide_true, decide_false, if_true, if_false, not_true_eq_false, List.append_eq, natMod, hP])))
    all_goals try (first | omega | (simp only [List.length_map, List.length_cons, List.length_nil, List.length_append, Nat.zero_add]; omega) | exact Int.natCast_nonneg _ | exact Int.le_trans (by decide) (Int.natCast_nonneg _) | exact Nat.le_of_ble_eq_true rfl)
    (refine adraw (by first | exact envOk _ | exact envCOk _ _ _) mixed [⟨false, false, 0⟩, ⟨false, false, 0⟩, ⟨false, false, 0⟩, ⟨false, false, 0⟩, ⟨false, false, 0⟩, ⟨false, false, 0⟩, ⟨false, false, 0⟩, ⟨false, false, 0⟩, ⟨false, false, 0⟩, ⟨false, false, 0⟩, ⟨false, false, 0⟩, ⟨false, false, 0⟩, ⟨false, false, 0⟩, ⟨false, false, 0⟩, ⟨false, false, 0⟩, ⟨false, false, 0⟩] (by kernel_rfl) ?_; show vcOpsD _ _ _ (_ :: _) _ _)
    simp (maxSteps := 4000000) only [↓VP0, ↓VP1, ↓VP2, VQ0, VQ1, VQ2, VQ3, VQ4, VT, ite_self, ite_split, Nat.reduceEqDiff, Nat.reduceAdd, Nat.reduceSub, Nat.reduceMul, Nat.reduceLeDiff, Nat.reduceLT, Nat.reduceBEq, Int.reduceLE, Int.reduceLT, Int.reduceNeg, Int.reduceAdd, Int.reduceSub, Int.reduceToNat, ↓reduceIte, reduceCtorEq]
    (repeat' (first | intro _ | refine And.intro ?_ ?_ | (refine ACall.pure (by with_reducible assumption) ?_; try simp (maxSteps := 4000000) only [↓VP0, ↓VP1, ↓VP2, VQ0, VQ1, VQ2, VQ3, VQ4, VT, ite_self, ite_split, Nat.reduceEqDiff, Nat.reduceAdd, Nat.reduceSub, Nat.reduceMul, Nat.reduceLeDiff, Nat.reduceLT, Nat.reduceBEq, Int.reduceLE, Int.reduceLT, Int.reduceNeg, Int.reduceAdd, Int.reduceSub, Int.reduceToNat, ↓reduceIte, reduceCtorEq, eq_self, decide_true, decide_false, if_true, if_false, not_true_eq_false, List.append_eq, natMod, hP]) | (refine VPure.of (by with_reducible assumption) ?_; try simp (maxSteps := 4000000) only [↓VP0, ↓VP1, ↓VP2, VQ0, VQ1, VQ2, VQ3, VQ4, VT, ite_self, ite_split, Nat.reduceEqDiff, Nat.reduceAdd, Nat.reduceSub, Nat.reduceMul, Nat.reduceLeDiff, Nat.reduceLT, Nat.reduceBEq, Int.reduceLE, Int.reduceLT, Int.reduceNeg, Int.reduceAdd, Int.reduceSub, Int.reduceToNat, ↓reduceIte, reduceCtorEq, eq_self, decide_true, decide_false, if_true, if_false, not_true_eq_false, List.append_eq, natMod, hP])))
    all_goals try (first | omega | (simp only [List.length_map, List.length_cons, List.length_nil, List.length_append, Nat.zero_add]; omega) | exact Int.natCast_nonneg _ | exact Int.le_trans (by decide) (Int.natCast_nonneg _) | exact Nat.le_of_ble_eq_true rfl)

theorem chestMore_c (c : RChest) (l : List Nat) (hl : l.length = 5) (hb : ∀ x ∈ l, x < 256) (hs : namesFit c) :
    PCall Try.prog 10 [chestA c, bytesA l] (.bool true) := by
  match l, hl with
  | [x, a, b, y, z], _ =>
    by_cases h : (checkR c).2.2 = 0
    · obtain ⟨e1, hv⟩ := valid_v h
      rw [e1] at hs
      rw [e1, vchestA_raw]
      exact chestMore_ok c.v hv hs x a b y z (hb x (by simp)) (hb a (by simp)) (hb b (by simp)) (hb y (by simp)) (hb z (by simp))
    · exact chestMore_bad c hs x a b y z h
end Go.Proofs.Ytakkdmdkelbnjaa.Abs

/- Laws: what Why, Lock and Least hand back is the first of all that fit. -/
namespace Go.Proofs.Ytakkdmdkelbnjaa.Abs
set_option linter.unusedSimpArgs false
open Go Go.RowKit Go.Proofs

/-- A search over what is picked out of a list: what fits and is first. -/
theorem pick_first {l : List Int} (hl : l.Pairwise (· < ·)) (h6 : l.length ≤ 6) {P : List Int → Bool} {ch : List Int} (h : searchL l.length (l.length + 1) (fun ch => P (pickL l ch)) = some ch) :
    P (pickL l ch) = true ∧ (∃ t, ch = listTo t l.length) ∧ ∀ g : Int → Bool, P (l.filter g) = true → fewerL (l.filter g) (pickL l ch) = false := by
  obtain ⟨h1, ⟨s, _, h2⟩, h3⟩ := search_first h6 h
  refine ⟨h1, ⟨s, h2⟩, fun g hg => ?_⟩
  rw [filter_pick] at hg ⊢
  rw [fewer_pick hl (fun i hi => listTo_in i hi) (fun i hi => by rw [h2] at hi; exact listTo_in i hi)]
  exact h3 _ hg

theorem pick_none {l : List Int} (h6 : l.length ≤ 6) {P : List Int → Bool} (h : searchL l.length (l.length + 1) (fun ch => P (pickL l ch)) = none) (g : Int → Bool) : P (l.filter g) = false := by
  rw [filter_pick]
  exact search_none h6 h _

theorem filter_and (s t n : Nat) : (listTo s n).filter (fun x => t.testBit x.toNat) = listTo (t &&& s) n :=
  filter_listTo fun i _ => by rw [Nat.testBit_and, Int.toNat_natCast, Bool.and_comm]

theorem listTo_six (s : Nat) {n : Nat} (h : n ≤ 6) : (listTo s n).length ≤ 6 := Nat.le_trans (listTo_length s n) h

/-- What is picked out of a list of a set is the list of one of its subsets. -/
theorem pick_sub {s n : Nat} {ch : List Int} (hn : n ≤ 6) (hc : ∃ t, ch = listTo t (listTo s n).length) : ∃ r, pickL (listTo s n) ch = listTo r n ∧ bitsS (pickL (listTo s n) ch) = r ∧ ∀ i, i < n → r.testBit i = true → s.testBit i = true := by
  obtain ⟨h1, h2⟩ := pick_listTo hn hc
  exact ⟨_, h1, rfl, h2⟩

theorem why_law (v : VChest) (hv : VOk v) (x fact : Nat) :
    (whyL v (listTo x v.copies.length) fact = ([], 9) ∧ ∀ y, (tellS v (y &&& x)).testBit fact = false) ∨
    ∃ r, whyL v (listTo x v.copies.length) fact = (listTo r v.copies.length, 0) ∧ (∀ i, i < v.copies.length → r.testBit i = true → x.testBit i = true) ∧ (tellS v r).testBit fact = true ∧
      ∀ y, (tellS v (y &&& x)).testBit fact = true → fewerL (listTo (y &&& x) v.copies.length) (listTo r v.copies.length) = false := by
  have h6 := hv.c
  have hl := listTo_pair x v.copies.length
  have hlen := listTo_six x h6
  have hb : ∀ s, tellS v (bitsS (listTo s v.copies.length)) = tellS v s := fun s => by rw [bitsS_listTo_mod, told_mod v hv]
  unfold whyL
  cases hs : searchL (listTo x v.copies.length).length ((listTo x v.copies.length).length + 1) fun ch => (tellS v (bitsS (pickL (listTo x v.copies.length) ch))).testBit fact with
  | none =>
    left
    refine ⟨rfl, fun y => ?_⟩
    have := pick_none hlen (P := fun l => (tellS v (bitsS l)).testBit fact) hs (fun i => y.testBit i.toNat)
    rwa [filter_and, hb] at this
  | some ch =>
    right
    obtain ⟨h1, h2, h3⟩ := pick_first hl hlen (P := fun l => (tellS v (bitsS l)).testBit fact) hs
    obtain ⟨r, e1, e2, e3⟩ := pick_sub h6 h2
    refine ⟨r, by simp only [e1], e3, by rw [← e2]; exact h1, fun y hy => ?_⟩
    have := h3 (fun i => y.testBit i.toNat)
    rw [filter_and, e1] at this
    exact this (by simp only [hb]; exact hy)

theorem own_list (v : VChest) (hv : VOk v) {p : Nat} (hp : p < v.people.length) : ownL v p = listTo (viewS v p) v.copies.length := by
  rw [← listS_view v hv p hp]
  refine listS_lt ?_ (by have := hv.c; omega)
  unfold viewS
  rw [if_pos hp]; exact setOf_lt _ _

/-- What Lock and Least hand back. -/
theorem full_law (v : VChest) (hv : VOk v) {p : Nat} (hp : p < v.people.length) (f : Nat → Bool) (hq : f (bitsS (pickL (ownL v p) (upToL (ownL v p).length))) = true) :
    ∃ r, (match searchL (ownL v p).length (ownL v p).length (fun ch => f (bitsS (pickL (ownL v p) ch))) with
      | some ch => pickL (ownL v p) ch
      | none => ownL v p) = listTo r v.copies.length ∧ r < 2 ^ v.copies.length ∧ (∀ i, i < v.copies.length → r.testBit i = true → (viewS v p).testBit i = true) ∧ f r = true ∧
      ∀ z, f (bitsS (listTo (z &&& viewS v p) v.copies.length)) = true → fewerL (listTo (z &&& viewS v p) v.copies.length) (listTo r v.copies.length) = false := by
  have h6 := hv.c
  have hf := search_full (ownL_six v hv p) (q := fun ch => f (bitsS (pickL (ownL v p) ch))) hq
  have key : ∃ ch, searchL (ownL v p).length ((ownL v p).length + 1) (fun ch => f (bitsS (pickL (ownL v p) ch))) = some ch ∧ (match searchL (ownL v p).length (ownL v p).length (fun ch => f (bitsS (pickL (ownL v p) ch))) with
      | some ch => pickL (ownL v p) ch
      | none => ownL v p) = pickL (ownL v p) ch := by
    rw [hf]
    cases searchL (ownL v p).length (ownL v p).length fun ch => f (bitsS (pickL (ownL v p) ch)) with
    | some ch => exact ⟨ch, rfl, rfl⟩
    | none => exact ⟨_, rfl, (pick_all _).symm⟩
  clear hf
  obtain ⟨ch, hf, e⟩ := key
  rw [e]
  clear e
  have hl := ownL_pair v hv p hp
  have h6' := ownL_six v hv p
  rw [own_list v hv hp] at hf hl h6' ⊢
  obtain ⟨h1, h2, h3⟩ := pick_first hl h6' (P := fun l => f (bitsS l)) hf
  obtain ⟨r, e1, e2, e3⟩ := pick_sub h6 h2
  refine ⟨r, e1, ?_, e3, by rw [← e2]; exact h1, fun z hz => ?_⟩
  · rw [← e2, e1, bitsS_listTo_mod]; exact Nat.mod_lt _ (Nat.pow_pos (by decide))
  · have := h3 (fun i => z.testBit i.toNat)
    rw [filter_and, e1] at this
    exact this hz

theorem told_rest (v : VChest) (hv : VOk v) (s t : Nat) : tellS v (natAndNot s (bitsS (listTo t v.copies.length))) = tellS v (natAndNot s t) := by
  refine sub_antisymm (told_mono v hv fun i hi h => ?_) (told_mono v hv fun i hi h => ?_) <;>
  · rw [natAndNot_bit, bitsS_listTo_mod, Nat.testBit_mod_two_pow] at *
    simpa [hi] using h

theorem lock_law (v : VChest) (hv : VOk v) {p : Nat} (fact : Nat) (hp : p < v.people.length) : ∃ r, lockL v p fact = listTo r v.copies.length ∧ (∀ i, i < v.copies.length → r.testBit i = true → (viewS v p).testBit i = true) ∧
    (tellS v (natAndNot (viewS v p) r)).testBit fact = false ∧
    ∀ z, (tellS v (natAndNot (viewS v p) (z &&& viewS v p))).testBit fact = false → fewerL (listTo (z &&& viewS v p) v.copies.length) (listTo r v.copies.length) = false := by
  obtain ⟨r, h1, _, h2, h3, h4⟩ := full_law v hv hp (fun s => !(tellS v (natAndNot (viewS v p) s)).testBit fact) (lockQ_all v hv p fact hp)
  refine ⟨r, h1, h2, by simpa using h3, fun z hz => h4 z ?_⟩
  rw [told_rest v hv, hz]; rfl

theorem least_law (v : VChest) (hv : VOk v) {p : Nat} (hp : p < v.people.length) : ∃ r, leastL v p = listTo r v.copies.length ∧ (∀ i, i < v.copies.length → r.testBit i = true → (viewS v p).testBit i = true) ∧
    tellS v r = tellS v (viewS v p) ∧
    ∀ z, tellS v (z &&& viewS v p) = tellS v (viewS v p) → fewerL (listTo (z &&& viewS v p) v.copies.length) (listTo r v.copies.length) = false := by
  obtain ⟨r, h1, _, h2, h3, h4⟩ := full_law v hv hp (fun s => decide (tellS v s = tellS v (viewS v p))) (leastQ_all v hv p hp)
  refine ⟨r, h1, h2, by simpa using h3, fun z hz => h4 z ?_⟩
  rw [bitsS_listTo_mod, told_mod v hv, hz]; simp
end Go.Proofs.Ytakkdmdkelbnjaa.Abs

/- The statement ChestLock: what its function does. -/
namespace Go.Proofs.Ytakkdmdkelbnjaa.Abs
set_option linter.unusedSimpArgs false
set_option maxHeartbeats 4000000
set_option maxRecDepth 100000
open Go Go.RowKit Go.Proofs

theorem peopled_yes (v : VChest) (hv : VOk v) (hs : namesFit v.raw) (hp : 0 < v.people.length) : PCall Try.prog 36 [vchestA v] (.bool true) := by
  have h1 := peopled_c v.raw hs
  have e1 : (decide ((checkR v.raw).2.2 = 0) && decide (0 < v.raw.people.length)) = true := by
    rw [Bool.and_eq_true, decide_eq_true_eq, decide_eq_true_eq]; exact ⟨check_ok hv, hp⟩
  rwa [e1, vchestA_raw] at h1

theorem peopled_no (c : RChest) (hs : namesFit c) (h : ¬ ((checkR c).2.2 = 0 ∧ 0 < c.people.length)) : PCall Try.prog 36 [chestA c] (.bool false) := by
  have h1 := peopled_c c hs
  have e1 : (decide ((checkR c).2.2 = 0) && decide (0 < c.people.length)) = false := by
    rw [Bool.and_eq_false_iff, decide_eq_false_iff_not, decide_eq_false_iff_not]; omega
  rwa [e1] at h1

/-- All that somebody may see. -/
theorem findS_none (v : VChest) (hv : VOk v) {p : Nat} (hp : p < v.people.length) : listTo (findS v p 0) v.copies.length = listTo (viewS v p) v.copies.length :=
  listTo_congr fun i hi => by
    rw [findS_bit v hp, viewS_bit v p i hp, decide_eq_true hi]
    have : subS 0 (v.copies[i]!).words = true := subS_iff.2 fun j hj => by simp at hj
    rw [this]; simp

theorem find_all (v : VChest) (hv : VOk v) (hs : namesFit v.raw) {p : Nat} (hp : p < v.people.length) :
    PCall Try.prog 22 [vchestA v, .int .i64 p, ints []] (.tuple [ints (listTo (viewS v p) v.copies.length), .int .i64 0]) := by
  have h3 := hv.p
  have h2 := find_top v.raw hs (p : Nat) [] (by show v.people.length ≤ _; omega)
  rwa [vchestA_raw, find_v hv hp rfl, found_set v hv hp, show bitsS [] = 0 from rfl, findS_none v hv hp] at h2

/-- Those of a list that another one has, one after the other. -/
def inTo (a b : List Int) (k : Nat) : List Int := (a.take k).filter fun x => decide (x ∈ b)

theorem inTo_succ {a b : List Int} {k : Nat} (h : k < a.length) : inTo a b (k + 1) = if a[k]! ∈ b then inTo a b k ++ [a[k]!] else inTo a b k := by
  unfold inTo
  rw [List.take_succ_eq_append_getElem h, List.filter_append, getD_idx h]
  by_cases e : a[k] ∈ b <;> simp [e]

theorem inTo_length (a b : List Int) (k : Nat) : (inTo a b k).length ≤ a.length := by
  unfold inTo
  refine Nat.le_trans (List.length_filter_le _ _) ?_
  rw [List.length_take]; omega

theorem inTo_all (s t n : Nat) {k : Nat} (h : (listTo s n).length ≤ k) : inTo (listTo s n) (listTo t n) k = listTo (s &&& t) n := by
  unfold inTo
  rw [List.take_of_length_le h]
  refine filter_listTo fun i hi => ?_
  rw [in_listTo, decide_eq_true hi, Bool.true_and, Nat.testBit_and]

theorem rest_ok (s t n : Nat) (hn : n ≤ 6) : PCall Try.prog 45 [ints (listTo s n), ints (listTo t n)] (ints (listTo (natAndNot s t) n)) := by
  have h := rest_c (listTo s n) (listTo t n) (by have := listTo_six s hn; omega)
  rwa [filter_listTo (t := natAndNot s t) fun i hi => by rw [natAndNot_bit, decide_not, in_listTo, decide_eq_true hi, Bool.true_and]] at h

theorem chestLock_bad (c : RChest) (hs : namesFit c) (hpl : c.people.length ≤ 9223372036854775807) (hfl : -9223372036854775808 ≤ c.facts ∧ c.facts ≤ 9223372036854775807) (x y z : Nat) (h : ¬ ((checkR c).2.2 = 0 ∧ 0 < c.people.length)) :
    PCall Try.prog 12 [chestA c, .agg [.int .u8 x, .int .u8 y, .int .u8 z]] (.bool true) := by
  intro m
  have h1 := peopled_no c hs h
  have h2 := lock_top c hs 0 0 hpl
  have h3 := lock_bad h 0
  generalize lockR c 0 0 = k at *
  simp only [chestA, chestL, strs, ints, List.map_nil] at *
  (refine acall_intro (E := env fun _ => .imm) (envOk _) rfl Try.func12 rfl Try.call12 (by kernel_rfl) (by simp [Try.ntmps12]) ?_; simp only [Try.f12];  simp (maxSteps := 4000000) only [↓VP0, ↓VP1, ↓VP2, VQ0, VQ1, VQ2, VQ3, VQ4, VT, ite_self, ite_split, Nat.reduceEqDiff, Nat.reduceAdd, Nat.reduceSub, Nat.reduceMul, Nat.reduceLeDiff, Nat.reduceLT, Nat.reduceBEq, Int.reduceLE, Int.reduceLT, Int.reduceNeg, Int.reduceAdd, Int.reduceSub, Int.reduceToNat, ↓reduceIte, reduceCtorEq])
  ((refine ACall.pure (h1) ?_; try simp (maxSteps := 4000000) only [↓VP0, ↓VP1, ↓VP2, VQ0, VQ1, VQ2, VQ3, VQ4, VT, ite_self, ite_split, Nat.reduceEqDiff, Nat.reduceAdd, Nat.reduceSub, Nat.reduceMul, Nat.reduceLeDiff, Nat.reduceLT, Nat.reduceBEq, Int.reduceLE, Int.reduceLT, Int.reduceNeg, Int.reduceAdd, Int.reduceSub, Int.reduceToNat, ↓reduceIte, reduceCtorEq]); try simp (maxSteps := 4000000) only [↓VP0, ↓VP1, ↓VP2, VQ0, VQ1, VQ2, VQ3, VQ4, VT, ite_self, ite_split, Nat.reduceEqDiff, Nat.reduceAdd, Nat.reduceSub, Nat.reduceMul, Nat.reduceLeDiff, Nat.reduceLT, Nat.reduceBEq, Int.reduceLE, Int.reduceLT, Int.reduceNeg, Int.reduceAdd, Int.reduceSub, Int.reduceToNat, ↓reduceIte, reduceCtorEq, eq_self, decide_true, decide_false, if_true, if_false, not_true_eq_false, List.append_eq])
  ((refine ACall.pure (h2) ?_; try simp (maxSteps := 4000000) only [↓VP0, ↓VP1, ↓VP2, VQ0, VQ1, VQ2, VQ3, VQ4, VT, ite_self, ite_split, Nat.reduceEqDiff, Nat.reduceAdd, Nat.reduceSub, Nat.reduceMul, Nat.reduceLeDiff, Nat.reduceLT, Nat.reduceBEq, Int.reduceLE, Int.reduceLT, Int.reduceNeg, Int.reduceAdd, Int.reduceSub, Int.reduceToNat, ↓reduceIte, reduceCtorEq]); try simp (maxSteps := 4000000) only [↓VP0, ↓VP1, ↓VP2, VQ0, VQ1, VQ2, VQ3, VQ4, VT, ite_self, ite_split, Nat.reduceEqDiff, Nat.reduceAdd, Nat.reduceSub, Nat.reduceMul, Nat.reduceLeDiff, Nat.reduceLT, Nat.reduceBEq, Int.reduceLE, Int.reduceLT, Int.reduceNeg, Int.reduceAdd, Int.reduceSub, Int.reduceToNat, ↓reduceIte, reduceCtorEq, eq_self, decide_true, decide_false, if_true, if_false, not_true_eq_false, List.append_eq])
  simp (maxSteps := 4000000) only [↓VP0, ↓VP1, ↓VP2, VQ0, VQ1, VQ2, VQ3, VQ4, VT, ite_self, ite_split, Nat.reduceEqDiff, Nat.reduceAdd, Nat.reduceSub, Nat.reduceMul, Nat.reduceLeDiff, Nat.reduceLT, Nat.reduceBEq, Int.reduceLE, Int.reduceLT, Int.reduceNeg, Int.reduceAdd, Int.reduceSub, Int.reduceToNat, ↓reduceIte, reduceCtorEq, h3]
  ((refine ACall.pure (awake_c) ?_; try simp (maxSteps := 4000000) only [↓VP0, ↓VP1, ↓VP2, VQ0, VQ1, VQ2, VQ3, VQ4, VT, ite_self, ite_split, Nat.reduceEqDiff, Nat.reduceAdd, Nat.reduceSub, Nat.reduceMul, Nat.reduceLeDiff, Nat.reduceLT, Nat.reduceBEq, Int.reduceLE, Int.reduceLT, Int.reduceNeg, Int.reduceAdd, Int.reduceSub, Int.reduceToNat, ↓reduceIte, reduceCtorEq]); try simp (maxSteps := 4000000) only [↓VP0, ↓VP1, ↓VP2, VQ0, VQ1, VQ2, VQ3, VQ4, VT, ite_self, ite_split, Nat.reduceEqDiff, Nat.reduceAdd, Nat.reduceSub, Nat.reduceMul, Nat.reduceLeDiff, Nat.reduceLT, Nat.reduceBEq, Int.reduceLE, Int.reduceLT, Int.reduceNeg, Int.reduceAdd, Int.reduceSub, Int.reduceToNat, ↓reduceIte, reduceCtorEq, eq_self, decide_true, decide_false, if_true, if_false, not_true_eq_false, List.append_eq])

theorem chestLock_ok (v : VChest) (hv : VOk v) (hs : namesFit v.raw) (x y z : Nat) (hp : 0 < v.people.length) (hx : x < 256) (hy : y < 256) (hz : z < 256) :
    PCall Try.prog 12 [vchestA v, .agg [.int .u8 x, .int .u8 y, .int .u8 z]] (.bool true) := by
  intro m
  have h3 := hv.p
  have hc6 := hv.c
  have hf6 := hv.f
  have h1 := peopled_yes v hv hs hp
  have hff : y % v.facts < v.facts := Nat.mod_lt _ (by omega)
  have hpp : x % v.people.length < v.people.length := Nat.mod_lt _ hp
  generalize hF : y % v.facts = f at *
  generalize hP : x % v.people.length = p at *
  have k1 := lawbits_c z v.copies.length hz (by omega)
  have o1 := find_all v hv hs hpp
  have q := lock_top v.raw hs (p : Nat) f (by show v.people.length ≤ _; omega)
  rw [vchestA_raw, lock_v hv hpp hff] at q
  obtain ⟨r, e, hsub, hno, hfew⟩ := lock_law v hv f hpp
  rw [e] at q
  have r1 := rising_ok r v.copies.length
  have r2 := rising_ok (viewS v p) v.copies.length
  have s1 := subset_ok (Nat.le_refl _) hsub
  have c1 := rest_ok (viewS v p) r v.copies.length hc6
  have c2 := rest_ok (viewS v p) (z &&& viewS v p) v.copies.length hc6
  have a1 := knows_ok v hv hs (natAndNot (viewS v p) r)
  have a2 := knows_ok v hv hs (natAndNot (viewS v p) (z &&& viewS v p))
  have b1 := has_at (s := tellS v (natAndNot (viewS v p) r)) hff
  have b2 := has_at (s := tellS v (natAndNot (viewS v p) (z &&& viewS v p))) hff
  rw [hno] at b1
  have f1 := fewer_c (listTo (z &&& viewS v p) v.copies.length) (listTo r v.copies.length)
  have aw := awake_c
  have hh := fun i => has_c (listTo (viewS v p) v.copies.length) i
  have hend : ∀ k, (listTo z v.copies.length).length ≤ k → inTo (listTo z v.copies.length) (listTo (viewS v p) v.copies.length) k = listTo (z &&& viewS v p) v.copies.length := fun k hk => inTo_all _ _ _ hk
  have hl6 := listTo_six z hc6
  have hfew' := hfew z
  cases hA : (tellS v (natAndNot (viewS v p) (z &&& viewS v p))).testBit f
  all_goals
    rw [hA] at b2
    try rw [hfew' hA] at f1
    simp only [vchestA, vchestL, strs, ints, List.map_nil] at *
    (refine acall_intro (E := env fun _ => .imm) (envOk _) rfl Try.func12 rfl Try.call12 (by kernel_rfl) (by simp [Try.ntmps12]) ?_; simp only [Try.f12];  simp (maxSteps := 4000000) only [↓VP0, ↓VP1, ↓VP2, VQ0, VQ1, VQ2, VQ3, VQ4, VT, ite_self, ite_split, Nat.reduceEqDiff, Nat.reduceAdd, Nat.reduceSub, Nat.reduceMul, Nat.reduceLeDiff, Nat.reduceLT, Nat.reduceBEq, Int.reduceLE, Int.reduceLT, Int.reduceNeg, Int.reduceAdd, Int.reduceSub, Int.reduceToNat, ↓reduceIte, reduceCtorEq])
    ((refine ACall.pure (h1) ?_; try simp (maxSteps := 4000000) only [↓VP0, ↓VP1, ↓VP2, VQ0, VQ1, VQ2, VQ3, VQ4, VT, ite_self, ite_split, Nat.reduceEqDiff, Nat.reduceAdd, Nat.reduceSub, Nat.reduceMul, Nat.reduceLeDiff, Nat.reduceLT, Nat.reduceBEq, Int.reduceLE, Int.reduceLT, Int.reduceNeg, Int.reduceAdd, Int.reduceSub, Int.reduceToNat, ↓reduceIte, reduceCtorEq]); try simp (maxSteps := 4000000) only [↓VP0, ↓VP1, ↓VP2, VQ0, VQ1, VQ2, VQ3, VQ4, VT, ite_self, ite_split, Nat.reduceEqDiff, Nat.reduceAdd, Nat.reduceSub, Nat.reduceMul, Nat.reduceLeDiff, Nat.reduceLT, Nat.reduceBEq, Int.reduceLE, Int.reduceLT, Int.reduceNeg, Int.reduceAdd, Int.reduceSub, Int.reduceToNat, ↓reduceIte, reduceCtorEq, eq_self, decide_true, decide_false, if_true, if_false, not_true_eq_false, List.append_eq])
    (refine adraw (by first | exact envOk _ | exact envCOk _ _ _) mixed [⟨false, false, 0⟩, ⟨false, false, 0⟩, ⟨false, false, 0⟩, ⟨false, false, 0⟩, ⟨false, false, 0⟩, ⟨false, false, 0⟩, ⟨false, false, 0⟩, ⟨false, false, 0⟩, ⟨false, false, 0⟩, ⟨false, false, 0⟩, ⟨false, false, 0⟩, ⟨false, false, 0⟩, ⟨false, false, 0⟩, ⟨false, false, 0⟩, ⟨false, false, 0⟩] (by kernel_rfl) ?_; show vcOpsD _ _ _ (_ :: _) _ _)
    simp (maxSteps := 4000000) only [↓VP0, ↓VP1, ↓VP2, VQ0, VQ1, VQ2, VQ3, VQ4, VT, ite_self, ite_split, Nat.reduceEqDiff, Nat.reduceAdd, Nat.reduceSub, Nat.reduceMul, Nat.reduceLeDiff, Nat.reduceLT, Nat.reduceBEq, Int.reduceLE, Int.reduceLT, Int.reduceNeg, Int.reduceAdd, Int.reduceSub, Int.reduceToNat, ↓reduceIte, reduceCtorEq, natMod, hP, hF]
    (repeat' (first | intro _ | refine And.intro ?_ ?_ | ((refine ACall.pure (by with_reducible assumption) ?_; try simp (maxSteps := 4000000) only [↓VP0, ↓VP1, ↓VP2, VQ0, VQ1, VQ2, VQ3, VQ4, VT, ite_self, ite_split, Nat.reduceEqDiff, Nat.reduceAdd, Nat.reduceSub, Nat.reduceMul, Nat.reduceLeDiff, Nat.reduceLT, Nat.reduceBEq, Int.reduceLE, Int.reduceLT, Int.reduceNeg, Int.reduceAdd, Int.reduceSub, Int.reduceToNat, ↓reduceIte, reduceCtorEq]); try simp (maxSteps := 4000000) only [↓VP0, ↓VP1, ↓VP2, VQ0, VQ1, VQ2, VQ3, VQ4, VT, ite_self, ite_split, Nat.reduceEqDiff, Nat.reduceAdd, Nat.reduceSub, Nat.reduceMul, Nat.reduceLeDiff, Nat.reduceLT, Nat.reduceBEq, Int.reduceLE, Int.reduceLT, Int.reduceNeg, Int.reduceAdd, Int.reduceSub, Int.reduceToNat, ↓reduceIte, reduceCtorEq, eq_self, decide_true, decide_false, if_true, if_false, not_true_eq_false, List.append_eq]) | (refine VPure.of (by with_reducible assumption) ?_; try simp (maxSteps := 4000000) only [↓VP0, ↓VP1, ↓VP2, VQ0, VQ1, VQ2, VQ3, VQ4, VT, ite_self, ite_split, Nat.reduceEqDiff, Nat.reduceAdd, Nat.reduceSub, Nat.reduceMul, Nat.reduceLeDiff, Nat.reduceLT, Nat.reduceBEq, Int.reduceLE, Int.reduceLT, Int.reduceNeg, Int.reduceAdd, Int.reduceSub, Int.reduceToNat, ↓reduceIte, reduceCtorEq, eq_self, decide_true, decide_false, if_true, if_false, not_true_eq_false, List.append_eq])))
    all_goals try (first | omega | (simp only [List.length_map, List.length_cons, List.length_nil, List.length_append, Nat.zero_add]; omega) | exact Int.natCast_nonneg _ | exact Int.le_trans (by decide) (Int.natCast_nonneg _) | exact Nat.le_of_ble_eq_true rfl)
    refine aloop (envOk _) (fun k : Nat => ⟨[(2, .v (.eptr [.int .i64 v.words, .int .i64 v.facts, .slice 1 (v.people.map AV.str), .int .i64 v.last, .slice 4 (v.copies.map vcopyA), .slice 2 (v.rules.map vruleA)])), (8, .v (.int .i64 f)), (9, .v (.slice 1 ((listTo (viewS v p) v.copies.length).map (AV.int .i64)))), (11, .v (.slice 1 ((listTo r v.copies.length).map (AV.int .i64)))),
        (13, .v (.slice 1 ((listTo z v.copies.length).map (AV.int .i64)))), (14, .v (.slice 1 ((inTo (listTo z v.copies.length) (listTo (viewS v p) v.copies.length) k).map (AV.int .i64)))), (15, .v (.int .i64 k))], [14], [], m⟩)
      (fun k => k ≤ (listTo z v.copies.length).length) (fun k => (listTo z v.copies.length).length - k) 0 (fun _ => rfl) (by simp) (by (simp only [Fits, fitsV, fitsO, fitsL, ↓upd, ↓lookV, ↓lookO, ↓lookL, Nat.reduceEqDiff, ↓reduceIte, ints, and_true, true_and, Option.some.injEq]); simp [inTo]) ?_
    intro k hk
    have hlen := inTo_length (listTo z v.copies.length) (listTo (viewS v p) v.copies.length) k
    simp (maxSteps := 4000000) only [↓VP0, ↓VP1, ↓VP2, VQ0, VQ1, VQ2, VQ3, VQ4, VT, ite_self, ite_split, Nat.reduceEqDiff, Nat.reduceAdd, Nat.reduceSub, Nat.reduceMul, Nat.reduceLeDiff, Nat.reduceLT, Nat.reduceBEq, Int.reduceLE, Int.reduceLT, Int.reduceNeg, Int.reduceAdd, Int.reduceSub, Int.reduceToNat, ↓reduceIte, reduceCtorEq]
    repeat' (first | intro _ | refine And.intro ?_ ?_)
    all_goals try (first | omega | (simp only [List.length_map, List.length_cons, List.length_nil, List.length_append, Nat.zero_add]; omega) | exact Int.natCast_nonneg _ | exact Int.le_trans (by decide) (Int.natCast_nonneg _) | exact Nat.le_of_ble_eq_true rfl)
    · have hlt : k < (listTo z v.copies.length).length := by omega
      have hs2 := inTo_succ (b := listTo (viewS v p) v.copies.length) hlt
      ((refine ACall.pure (hh _) ?_; try simp (maxSteps := 4000000) only [↓VP0, ↓VP1, ↓VP2, VQ0, VQ1, VQ2, VQ3, VQ4, VT, ite_self, ite_split, Nat.reduceEqDiff, Nat.reduceAdd, Nat.reduceSub, Nat.reduceMul, Nat.reduceLeDiff, Nat.reduceLT, Nat.reduceBEq, Int.reduceLE, Int.reduceLT, Int.reduceNeg, Int.reduceAdd, Int.reduceSub, Int.reduceToNat, ↓reduceIte, reduceCtorEq]); try simp (maxSteps := 4000000) only [↓VP0, ↓VP1, ↓VP2, VQ0, VQ1, VQ2, VQ3, VQ4, VT, ite_self, ite_split, Nat.reduceEqDiff, Nat.reduceAdd, Nat.reduceSub, Nat.reduceMul, Nat.reduceLeDiff, Nat.reduceLT, Nat.reduceBEq, Int.reduceLE, Int.reduceLT, Int.reduceNeg, Int.reduceAdd, Int.reduceSub, Int.reduceToNat, ↓reduceIte, reduceCtorEq, eq_self, decide_true, decide_false, if_true, if_false, not_true_eq_false, List.append_eq])
      repeat' (first | intro _ | refine And.intro ?_ ?_)
      all_goals try (first | omega | (simp only [List.length_map, List.length_cons, List.length_nil, List.length_append, Nat.zero_add]; omega) | exact Int.natCast_nonneg _ | exact Int.le_trans (by decide) (Int.natCast_nonneg _) | exact Nat.le_of_ble_eq_true rfl)
      · have h : (listTo z v.copies.length)[k]! ∈ listTo (viewS v p) v.copies.length := by assumption
        rw [if_pos h] at hs2
        (refine ⟨k + 1, by first | omega | (dsimp only; omega), by dsimp only; omega, ?_⟩; (simp only [Fits, fitsV, fitsO, fitsL, ↓upd, ↓lookV, ↓lookO, ↓lookL, Nat.reduceEqDiff, ↓reduceIte, ints, and_true, true_and, Option.some.injEq]); try simp [hs2])
      · have h : ¬ (listTo z v.copies.length)[k]! ∈ listTo (viewS v p) v.copies.length := by assumption
        rw [if_neg h] at hs2
        (refine ⟨k + 1, by first | omega | (dsimp only; omega), by dsimp only; omega, ?_⟩; (simp only [Fits, fitsV, fitsO, fitsL, ↓upd, ↓lookV, ↓lookO, ↓lookL, Nat.reduceEqDiff, ↓reduceIte, ints, and_true, true_and, Option.some.injEq]); try simp [hs2])
    · have hend' := hend k (by omega)
      (refine adraw (by first | exact envOk _ | exact envCOk _ _ _) mixed [⟨false, false, 0⟩, ⟨false, false, 0⟩, ⟨false, false, 0⟩, ⟨false, false, 0⟩, ⟨false, false, 0⟩, ⟨false, false, 0⟩, ⟨false, false, 0⟩, ⟨false, false, 0⟩, ⟨false, false, 0⟩, ⟨false, false, 0⟩] (by kernel_rfl) ?_; show vcOpsD _ _ _ (_ :: _) _ _)
      simp (maxSteps := 4000000) only [↓VP0, ↓VP1, ↓VP2, VQ0, VQ1, VQ2, VQ3, VQ4, VT, ite_self, ite_split, Nat.reduceEqDiff, Nat.reduceAdd, Nat.reduceSub, Nat.reduceMul, Nat.reduceLeDiff, Nat.reduceLT, Nat.reduceBEq, Int.reduceLE, Int.reduceLT, Int.reduceNeg, Int.reduceAdd, Int.reduceSub, Int.reduceToNat, ↓reduceIte, reduceCtorEq, hend']
      (repeat' (first | intro _ | refine And.intro ?_ ?_ | (refine ACall.pure (by with_reducible assumption) ?_; try simp (maxSteps := 4000000) only [↓VP0, ↓VP1, ↓VP2, VQ0, VQ1, VQ2, VQ3, VQ4, VT, ite_self, ite_split, Nat.reduceEqDiff, Nat.reduceAdd, Nat.reduceSub, Nat.reduceMul, Nat.reduceLeDiff, Nat.reduceLT, Nat.reduceBEq, Int.reduceLE, Int.reduceLT, Int.reduceNeg, Int.reduceAdd, Int.reduceSub, Int.reduceToNat, ↓reduceIte, reduceCtorEq, eq_self, decide_true, decide_false, if_true, if_false, not_true_eq_false, List.append_eq, hend']) | (refine VPure.of (by with_reducible assumption) ?_; try simp (maxSteps := 4000000) only [↓VP0, ↓VP1, ↓VP2, VQ0, VQ1, VQ2, VQ3, VQ4, VT, ite_self, ite_split, Nat.reduceEqDiff, Nat.reduceAdd, Nat.reduceSub, Nat.reduceMul, Nat.reduceLeDiff, Nat.reduceLT, Nat.reduceBEq, Int.reduceLE, Int.reduceLT, Int.reduceNeg, Int.reduceAdd, Int.reduceSub, Int.reduceToNat, ↓reduceIte, reduceCtorEq, eq_self, decide_true, decide_false, if_true, if_false, not_true_eq_false, List.append_eq, hend'])))
      all_goals try (first | omega | (simp only [List.length_map, List.length_cons, List.length_nil, List.length_append, Nat.zero_add]; omega) | exact Int.natCast_nonneg _ | exact Int.le_trans (by decide) (Int.natCast_nonneg _) | exact Nat.le_of_ble_eq_true rfl)
      (refine adraw (by first | exact envOk _ | exact envCOk _ _ _) mixed [⟨false, false, 0⟩, ⟨false, false, 0⟩, ⟨false, false, 0⟩, ⟨false, false, 0⟩, ⟨false, false, 0⟩, ⟨false, false, 0⟩, ⟨false, false, 0⟩, ⟨false, false, 0⟩, ⟨false, false, 0⟩, ⟨false, false, 0⟩] (by kernel_rfl) ?_; show vcOpsD _ _ _ (_ :: _) _ _)
      simp (maxSteps := 4000000) only [↓VP0, ↓VP1, ↓VP2, VQ0, VQ1, VQ2, VQ3, VQ4, VT, ite_self, ite_split, Nat.reduceEqDiff, Nat.reduceAdd, Nat.reduceSub, Nat.reduceMul, Nat.reduceLeDiff, Nat.reduceLT, Nat.reduceBEq, Int.reduceLE, Int.reduceLT, Int.reduceNeg, Int.reduceAdd, Int.reduceSub, Int.reduceToNat, ↓reduceIte, reduceCtorEq, hend']
      (repeat' (first | intro _ | refine And.intro ?_ ?_ | (refine ACall.pure (by with_reducible assumption) ?_; try simp (maxSteps := 4000000) only [↓VP0, ↓VP1, ↓VP2, VQ0, VQ1, VQ2, VQ3, VQ4, VT, ite_self, ite_split, Nat.reduceEqDiff, Nat.reduceAdd, Nat.reduceSub, Nat.reduceMul, Nat.reduceLeDiff, Nat.reduceLT, Nat.reduceBEq, Int.reduceLE, Int.reduceLT, Int.reduceNeg, Int.reduceAdd, Int.reduceSub, Int.reduceToNat, ↓reduceIte, reduceCtorEq, eq_self, decide_true, decide_false, if_true, if_false, not_true_eq_false, List.append_eq, hend']) | (refine VPure.of (by with_reducible assumption) ?_; try simp (maxSteps := 4000000) only [↓VP0, ↓VP1, ↓VP2, VQ0, VQ1, VQ2, VQ3, VQ4, VT, ite_self, ite_split, Nat.reduceEqDiff, Nat.reduceAdd, Nat.reduceSub, Nat.reduceMul, Nat.reduceLeDiff, Nat.reduceLT, Nat.reduceBEq, Int.reduceLE, Int.reduceLT, Int.reduceNeg, Int.reduceAdd, Int.reduceSub, Int.reduceToNat, ↓reduceIte, reduceCtorEq, eq_self, decide_true, decide_false, if_true, if_false, not_true_eq_false, List.append_eq, hend'])))
      all_goals try (first | omega | (simp only [List.length_map, List.length_cons, List.length_nil, List.length_append, Nat.zero_add]; omega) | exact Int.natCast_nonneg _ | exact Int.le_trans (by decide) (Int.natCast_nonneg _) | exact Nat.le_of_ble_eq_true rfl)

theorem chestLock_c (c : RChest) (l : List Nat) (hl : l.length = 3) (hb : ∀ x ∈ l, x < 256) (hs : namesFit c) (hpl : c.people.length ≤ 9223372036854775807) (hfl : -9223372036854775808 ≤ c.facts ∧ c.facts ≤ 9223372036854775807) :
    PCall Try.prog 12 [chestA c, bytesA l] (.bool true) := by
  match l, hl with
  | [x, y, z], _ =>
    by_cases h : (checkR c).2.2 = 0 ∧ 0 < c.people.length
    · obtain ⟨e1, hv⟩ := valid_v h.1
      have hp : 0 < c.v.people.length := h.2
      rw [e1] at hs
      rw [e1, vchestA_raw]
      exact chestLock_ok c.v hv hs x y z hp (hb x (by simp)) (hb y (by simp)) (hb z (by simp))
    · exact chestLock_bad c hs hpl hfl x y z h
end Go.Proofs.Ytakkdmdkelbnjaa.Abs
