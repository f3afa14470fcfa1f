/- The statement ChestTold: for any chest, copies and facts the law returns true. Conditions: none. -/
import Derived.Test.YtakkdmdkelbnjaaK11
import Derived.Test.YtakkdmdkelbnjaaK10
namespace Go.Proofs.Ytakkdmdkelbnjaa.Abs
set_option linter.unusedSimpArgs false
set_option maxHeartbeats 4000000
set_option maxRecDepth 100000
open Go Go.RowKit Go.Proofs

theorem holds_set {n f s : Nat} (h : f < 2 ^ n) : holdsB n f (listTo s n) = subS f s := by
  unfold holdsB
  rw [Bool.eq_iff_iff, List.all_eq_true, subS_iff]
  constructor
  · intro hx i hi
    have := hx i (List.mem_range.2 (bit_lt h hi))
    rw [hi, in_listTo] at this
    simp at this; exact this.2
  · intro hx i hi
    rw [in_listTo, decide_eq_true (List.mem_range.1 hi), Bool.true_and]
    cases hf : f.testBit i with
    | false => rfl
    | true => rw [hx i hf]; rfl

/-- Has a set the first facts of a copy? -/
def rowB (v : VChest) (o : Nat) (c : Int) (k : Nat) : Bool := (List.range k).all fun f => !(v.copies[c.toNat]!).facts.testBit f || o.testBit f
def factsB (v : VChest) (o : Nat) (l : List Int) (k : Nat) : Bool := (l.take k).all fun c => rowB v o c v.facts
def ruleB (o : Nat) (r : VRule) : Bool := !subS r.if_ o || o.testBit r.then_
def rulesB (v : VChest) (o k : Nat) : Bool := (v.rules.take k).all (ruleB o)

theorem rowB_succ (v : VChest) (o : Nat) (c : Int) (k : Nat) : rowB v o c (k + 1) = (rowB v o c k && (!(v.copies[c.toNat]!).facts.testBit k || o.testBit k)) := by
  unfold rowB; rw [List.range_succ, List.all_append]; simp
theorem factsB_succ (v : VChest) (o : Nat) {l : List Int} {k : Nat} (h : k < l.length) : factsB v o l (k + 1) = (factsB v o l k && rowB v o l[k]! v.facts) := by
  unfold factsB; rw [List.take_succ_eq_append_getElem h, List.all_append, getD_idx h]; simp
theorem rulesB_succ (v : VChest) (o : Nat) {k : Nat} (h : k < v.rules.length) : rulesB v o (k + 1) = (rulesB v o k && ruleB o v.rules[k]!) := by
  unfold rulesB; rw [List.take_succ_eq_append_getElem h, List.all_append, getD_any h]; simp

theorem closed_sub (v : VChest) (hv : VOk v) {s o : Nat} (h : (factsB v o (listTo s v.copies.length) (listTo s v.copies.length).length && rulesB v o v.rules.length) = true) : ∀ i, i < v.facts → (tellS v s).testBit i = true → o.testBit i = true := by
  rw [Bool.and_eq_true] at h
  obtain ⟨h1, h2⟩ := h
  unfold factsB at h1
  unfold rulesB at h2
  rw [List.take_length, List.all_eq_true] at h1 h2
  intro i _
  refine told_least v (fun j f hj hs hf => ?_) (fun r hr hs => ?_) i
  · have := h1 (j : Int) (mem_listTo.2 ⟨j, hj, hs, rfl⟩)
    unfold rowB at this
    rw [List.all_eq_true] at this
    have := this f (List.mem_range.2 (bit_lt (facts_lt v hv hj) hf))
    rw [Int.toNat_natCast, hf] at this
    simpa using this
  · have := h2 r hr
    unfold ruleB at this
    rw [hs] at this
    simpa using this

theorem chestTold_bad (c : RChest) (hs : namesFit c) (x y : Nat) (h : ¬ (checkR c).2.2 = 0) :
    PCall Try.prog 11 [chestA c, .agg [.int .u8 x, .int .u8 y]] (.bool true) := by
  intro m
  have h1 := valid_bad c hs h
  have h2 := knows_top c hs []
  have h3 := knows_bad h []
  generalize knowsR c [] = k at *
  simp only [chestA, chestL, strs, ints, List.map_nil] at *
  (refine acall_intro (E := env fun _ => .imm) (envOk _) rfl Try.func11 rfl Try.call11 (by kernel_rfl) (by simp [Try.ntmps11]) ?_; simp only [Try.f11];  simp (maxSteps := 4000000) only [↓VP0, ↓VP1, ↓VP2, VQ0, VQ1, VQ2, VQ3, VQ4, VT, ite_self, ite_split, Nat.reduceEqDiff, Nat.reduceAdd, Nat.reduceSub, Nat.reduceMul, Nat.reduceLeDiff, Nat.reduceLT, Nat.reduceBEq, Int.reduceLE, Int.reduceLT, Int.reduceNeg, Int.reduceAdd, Int.reduceSub, Int.reduceToNat, ↓reduceIte, reduceCtorEq])
  ((refine ACall.pure (h1) ?_; try simp (maxSteps := 4000000) only [↓VP0, ↓VP1, ↓VP2, VQ0, VQ1, VQ2, VQ3, VQ4, VT, ite_self, ite_split, Nat.reduceEqDiff, Nat.reduceAdd, Nat.reduceSub, Nat.reduceMul, Nat.reduceLeDiff, Nat.reduceLT, Nat.reduceBEq, Int.reduceLE, Int.reduceLT, Int.reduceNeg, Int.reduceAdd, Int.reduceSub, Int.reduceToNat, ↓reduceIte, reduceCtorEq]); try simp (maxSteps := 4000000) only [↓VP0, ↓VP1, ↓VP2, VQ0, VQ1, VQ2, VQ3, VQ4, VT, ite_self, ite_split, Nat.reduceEqDiff, Nat.reduceAdd, Nat.reduceSub, Nat.reduceMul, Nat.reduceLeDiff, Nat.reduceLT, Nat.reduceBEq, Int.reduceLE, Int.reduceLT, Int.reduceNeg, Int.reduceAdd, Int.reduceSub, Int.reduceToNat, ↓reduceIte, reduceCtorEq, eq_self, decide_true, decide_false, if_true, if_false, not_true_eq_false, List.append_eq])
  ((refine ACall.pure (h2) ?_; try simp (maxSteps := 4000000) only [↓VP0, ↓VP1, ↓VP2, VQ0, VQ1, VQ2, VQ3, VQ4, VT, ite_self, ite_split, Nat.reduceEqDiff, Nat.reduceAdd, Nat.reduceSub, Nat.reduceMul, Nat.reduceLeDiff, Nat.reduceLT, Nat.reduceBEq, Int.reduceLE, Int.reduceLT, Int.reduceNeg, Int.reduceAdd, Int.reduceSub, Int.reduceToNat, ↓reduceIte, reduceCtorEq]); try simp (maxSteps := 4000000) only [↓VP0, ↓VP1, ↓VP2, VQ0, VQ1, VQ2, VQ3, VQ4, VT, ite_self, ite_split, Nat.reduceEqDiff, Nat.reduceAdd, Nat.reduceSub, Nat.reduceMul, Nat.reduceLeDiff, Nat.reduceLT, Nat.reduceBEq, Int.reduceLE, Int.reduceLT, Int.reduceNeg, Int.reduceAdd, Int.reduceSub, Int.reduceToNat, ↓reduceIte, reduceCtorEq, eq_self, decide_true, decide_false, if_true, if_false, not_true_eq_false, List.append_eq])
  simp (maxSteps := 4000000) only [↓VP0, ↓VP1, ↓VP2, VQ0, VQ1, VQ2, VQ3, VQ4, VT, ite_self, ite_split, Nat.reduceEqDiff, Nat.reduceAdd, Nat.reduceSub, Nat.reduceMul, Nat.reduceLeDiff, Nat.reduceLT, Nat.reduceBEq, Int.reduceLE, Int.reduceLT, Int.reduceNeg, Int.reduceAdd, Int.reduceSub, Int.reduceToNat, ↓reduceIte, reduceCtorEq, h3]
  ((refine ACall.pure (awake_c) ?_; try simp (maxSteps := 4000000) only [↓VP0, ↓VP1, ↓VP2, VQ0, VQ1, VQ2, VQ3, VQ4, VT, ite_self, ite_split, Nat.reduceEqDiff, Nat.reduceAdd, Nat.reduceSub, Nat.reduceMul, Nat.reduceLeDiff, Nat.reduceLT, Nat.reduceBEq, Int.reduceLE, Int.reduceLT, Int.reduceNeg, Int.reduceAdd, Int.reduceSub, Int.reduceToNat, ↓reduceIte, reduceCtorEq]); try simp (maxSteps := 4000000) only [↓VP0, ↓VP1, ↓VP2, VQ0, VQ1, VQ2, VQ3, VQ4, VT, ite_self, ite_split, Nat.reduceEqDiff, Nat.reduceAdd, Nat.reduceSub, Nat.reduceMul, Nat.reduceLeDiff, Nat.reduceLT, Nat.reduceBEq, Int.reduceLE, Int.reduceLT, Int.reduceNeg, Int.reduceAdd, Int.reduceSub, Int.reduceToNat, ↓reduceIte, reduceCtorEq, eq_self, decide_true, decide_false, if_true, if_false, not_true_eq_false, List.append_eq])

theorem chestTold_ok (v : VChest) (hv : VOk v) (hs : namesFit v.raw) (x y : Nat) (hx : x < 256) (hy : y < 256) :
    PCall Try.prog 11 [vchestA v, .agg [.int .u8 x, .int .u8 y]] (.bool true) := by
  intro m
  have hc6 := hv.c
  have hf6 := hv.f
  have h1 := valid_ok v hv hs
  have k1 := lawbits_c x v.copies.length hx (by omega)
  have k2 := lawbits_c y v.facts hy (by omega)
  have q1 := knows_ok v hv hs x
  have r1 := rising_ok (tellS v x) v.facts
  have hsub := closed_sub v hv (s := x) (o := y)
  have s1 := fun h => subset_ok (s := tellS v x) (t := y) (Nat.le_refl _) (hsub h)
  have hh1 := fun i (h : i < v.facts) => has_at (s := tellS v x) h
  have hh2 := fun i (h : i < v.facts) => has_at (s := y) h
  have hbit := fun (n : Nat) (i : Int) (hn : n < 2 ^ 62) (hi : i ≤ 9223372036854775807) => bitN_c n i hn hi
  have hmem := fun i (h : i < (listTo x v.copies.length).length) => mem_listTo.1 (List.getElem_mem h)
  have htold := fun i f (h : i < v.copies.length) => told_hold v (set := x) (i := i) (f := f) h
  have hl6 := listTo_six x hc6
  have hfl := fun i (h : i < v.copies.length) => facts_lt v hv h
  have h62 : 2 ^ v.facts ≤ 2 ^ 6 := Nat.pow_le_pow_right (by decide) hf6.2
  have hrl := fun i (h : i < v.rules.length) => hv.rule _ (List.getElem_mem h)
  have ho1 := fun (r : VRule) (h : r.if_ < 2 ^ 62) => holds_c v hv r h (listTo (tellS v x) v.facts)
  have ho2 := fun (r : VRule) (h : r.if_ < 2 ^ 62) => holds_c v hv r h (listTo y v.facts)
  have hcl := told_closed v hv x
  simp only [vchestA, vchestL, strs, ints, List.map_nil] at *
  (refine acall_intro (E := envC (modeAt [15] []) false []) (envCOk _ _ _) rfl Try.func11 rfl Try.call11 (by kernel_rfl) (by simp [Try.ntmps11]) ?_; simp only [Try.f11];  simp (maxSteps := 4000000) only [↓VP0, ↓VP1, ↓VP2, VQ0, VQ1, VQ2, VQ3, VQ4, VT, ite_self, ite_split, Nat.reduceEqDiff, Nat.reduceAdd, Nat.reduceSub, Nat.reduceMul, Nat.reduceLeDiff, Nat.reduceLT, Nat.reduceBEq, Int.reduceLE, Int.reduceLT, Int.reduceNeg, Int.reduceAdd, Int.reduceSub, Int.reduceToNat, ↓reduceIte, reduceCtorEq])
  repeat' (first | intro _ | refine And.intro ?_ ?_)
  ((refine ACall.pure (h1) ?_; try simp (maxSteps := 4000000) only [↓VP0, ↓VP1, ↓VP2, VQ0, VQ1, VQ2, VQ3, VQ4, VT, ite_self, ite_split, Nat.reduceEqDiff, Nat.reduceAdd, Nat.reduceSub, Nat.reduceMul, Nat.reduceLeDiff, Nat.reduceLT, Nat.reduceBEq, Int.reduceLE, Int.reduceLT, Int.reduceNeg, Int.reduceAdd, Int.reduceSub, Int.reduceToNat, ↓reduceIte, reduceCtorEq]); try simp (maxSteps := 4000000) only [↓VP0, ↓VP1, ↓VP2, VQ0, VQ1, VQ2, VQ3, VQ4, VT, ite_self, ite_split, Nat.reduceEqDiff, Nat.reduceAdd, Nat.reduceSub, Nat.reduceMul, Nat.reduceLeDiff, Nat.reduceLT, Nat.reduceBEq, Int.reduceLE, Int.reduceLT, Int.reduceNeg, Int.reduceAdd, Int.reduceSub, Int.reduceToNat, ↓reduceIte, reduceCtorEq, eq_self, decide_true, decide_false, if_true, if_false, not_true_eq_false, List.append_eq])
  (refine adraw (envOk _) mixed [⟨false, false, 0⟩, ⟨false, false, 0⟩, ⟨false, false, 0⟩, ⟨false, false, 0⟩, ⟨false, false, 0⟩, ⟨false, false, 0⟩, ⟨false, false, 0⟩, ⟨false, false, 0⟩, ⟨false, false, 0⟩, ⟨false, false, 0⟩, ⟨false, false, 0⟩, ⟨false, false, 0⟩, ⟨false, false, 0⟩] (by kernel_rfl) ?_; show vcOpsD _ _ _ (_ :: _) _ _)
  simp (maxSteps := 4000000) only [↓VP0, ↓VP1, ↓VP2, VQ0, VQ1, VQ2, VQ3, VQ4, VT, ite_self, ite_split, Nat.reduceEqDiff, Nat.reduceAdd, Nat.reduceSub, Nat.reduceMul, Nat.reduceLeDiff, Nat.reduceLT, Nat.reduceBEq, Int.reduceLE, Int.reduceLT, Int.reduceNeg, Int.reduceAdd, Int.reduceSub, Int.reduceToNat, ↓reduceIte, reduceCtorEq]
  (repeat' (first | intro _ | refine And.intro ?_ ?_ | ((refine ACall.pure (by with_reducible assumption) ?_; try simp (maxSteps := 4000000) only [↓VP0, ↓VP1, ↓VP2, VQ0, VQ1, VQ2, VQ3, VQ4, VT, ite_self, ite_split, Nat.reduceEqDiff, Nat.reduceAdd, Nat.reduceSub, Nat.reduceMul, Nat.reduceLeDiff, Nat.reduceLT, Nat.reduceBEq, Int.reduceLE, Int.reduceLT, Int.reduceNeg, Int.reduceAdd, Int.reduceSub, Int.reduceToNat, ↓reduceIte, reduceCtorEq]); try simp (maxSteps := 4000000) only [↓VP0, ↓VP1, ↓VP2, VQ0, VQ1, VQ2, VQ3, VQ4, VT, ite_self, ite_split, Nat.reduceEqDiff, Nat.reduceAdd, Nat.reduceSub, Nat.reduceMul, Nat.reduceLeDiff, Nat.reduceLT, Nat.reduceBEq, Int.reduceLE, Int.reduceLT, Int.reduceNeg, Int.reduceAdd, Int.reduceSub, Int.reduceToNat, ↓reduceIte, reduceCtorEq, eq_self, decide_true, decide_false, if_true, if_false, not_true_eq_false, List.append_eq]) | (refine VPure.of (by with_reducible assumption) ?_; try simp (maxSteps := 4000000) only [↓VP0, ↓VP1, ↓VP2, VQ0, VQ1, VQ2, VQ3, VQ4, VT, ite_self, ite_split, Nat.reduceEqDiff, Nat.reduceAdd, Nat.reduceSub, Nat.reduceMul, Nat.reduceLeDiff, Nat.reduceLT, Nat.reduceBEq, Int.reduceLE, Int.reduceLT, Int.reduceNeg, Int.reduceAdd, Int.reduceSub, Int.reduceToNat, ↓reduceIte, reduceCtorEq, eq_self, decide_true, decide_false, if_true, if_false, not_true_eq_false, List.append_eq])))
  all_goals try (first | omega | (simp only [List.length_map, List.length_cons, List.length_nil, List.length_append, Nat.zero_add]; omega) | exact Int.natCast_nonneg _ | exact Int.le_trans (by decide) (Int.natCast_nonneg _) | exact Nat.le_of_ble_eq_true rfl)
  refine aloop (envOk _) (fun i : Nat => ⟨[(2, .v (.eptr [.int .i64 v.words, .int .i64 v.facts, .slice 1 (v.people.map AV.str), .int .i64 v.last, .slice 4 (v.copies.map vcopyA), .slice 2 (v.rules.map vruleA)])), (7, .v (.slice 1 ((listTo x v.copies.length).map (AV.int .i64)))), (8, .v (.slice 1 ((listTo y v.facts).map (AV.int .i64)))),
      (9, .v (.slice 1 ((listTo (tellS v x) v.facts).map (AV.int .i64)))), (11, .v (.bool (factsB v y (listTo x v.copies.length) i))), (12, .v (.int .i64 i))], [], [], m⟩)
    (fun i => i ≤ (listTo x v.copies.length).length) (fun i => (listTo x v.copies.length).length - i) 0 (fun _ => rfl) (by simp) (by (simp only [Fits, fitsV, fitsO, fitsL, ↓upd, ↓lookV, ↓lookO, ↓lookL, Nat.reduceEqDiff, ↓reduceIte, ints, and_true, true_and, Option.some.injEq]); simp [factsB]) ?_
  intro i hi
  simp (maxSteps := 4000000) only [↓VP0, ↓VP1, ↓VP2, VQ0, VQ1, VQ2, VQ3, VQ4, VT, ite_self, ite_split, Nat.reduceEqDiff, Nat.reduceAdd, Nat.reduceSub, Nat.reduceMul, Nat.reduceLeDiff, Nat.reduceLT, Nat.reduceBEq, Int.reduceLE, Int.reduceLT, Int.reduceNeg, Int.reduceAdd, Int.reduceSub, Int.reduceToNat, ↓reduceIte, reduceCtorEq]
  repeat' (first | intro _ | refine And.intro ?_ ?_)
  all_goals try (first | omega | (simp only [List.length_map, List.length_cons, List.length_nil, List.length_append, Nat.zero_add]; omega) | exact Int.natCast_nonneg _ | exact Int.le_trans (by decide) (Int.natCast_nonneg _) | exact Nat.le_of_ble_eq_true rfl)
  · have hlt : i < (listTo x v.copies.length).length := by omega
    have ew : (listTo x v.copies.length)[i]! = (listTo x v.copies.length)[i] := getD_idx hlt
    obtain ⟨j, hj1, hj2, hj3⟩ := hmem i hlt
    rw [← ew] at hj3
    refine aloop (envOk _) (fun f : Nat => ⟨[(2, .v (.eptr [.int .i64 v.words, .int .i64 v.facts, .slice 1 (v.people.map AV.str), .int .i64 v.last, .slice 4 (v.copies.map vcopyA), .slice 2 (v.rules.map vruleA)])), (7, .v (.slice 1 ((listTo x v.copies.length).map (AV.int .i64)))), (8, .v (.slice 1 ((listTo y v.facts).map (AV.int .i64)))),
        (9, .v (.slice 1 ((listTo (tellS v x) v.facts).map (AV.int .i64)))), (11, .v (.bool (factsB v y (listTo x v.copies.length) i && rowB v y (j : Int) f))), (12, .v (.int .i64 i)), (13, .v (.int .i64 f))], [], [], m⟩)
      (fun f => f ≤ v.facts) (fun f => v.facts - f) 0 (fun _ => rfl) (by simp) (by (simp only [Fits, fitsV, fitsO, fitsL, ↓upd, ↓lookV, ↓lookO, ↓lookL, Nat.reduceEqDiff, ↓reduceIte, ints, and_true, true_and, Option.some.injEq]); simp [rowB]) ?_
    intro f hf
    have hbj := hbit (v.copies[j]!).facts f (by have := hfl j hj1; omega) (by omega)
    simp (maxSteps := 4000000) only [↓VP0, ↓VP1, ↓VP2, VQ0, VQ1, VQ2, VQ3, VQ4, VT, ite_self, ite_split, Nat.reduceEqDiff, Nat.reduceAdd, Nat.reduceSub, Nat.reduceMul, Nat.reduceLeDiff, Nat.reduceLT, Nat.reduceBEq, Int.reduceLE, Int.reduceLT, Int.reduceNeg, Int.reduceAdd, Int.reduceSub, Int.reduceToNat, ↓reduceIte, reduceCtorEq]
    repeat' (first | intro _ | refine And.intro ?_ ?_)
    all_goals try (first | omega | (simp only [List.length_map, List.length_cons, List.length_nil, List.length_append, Nat.zero_add]; omega) | exact Int.natCast_nonneg _ | exact Int.le_trans (by decide) (Int.natCast_nonneg _) | exact Nat.le_of_ble_eq_true rfl)
    · (refine adraw (envOk _) mixed [⟨false, false, 0⟩, ⟨false, false, 0⟩, ⟨false, false, 0⟩, ⟨false, false, 0⟩, ⟨false, false, 0⟩, ⟨false, false, 0⟩, ⟨false, false, 0⟩, ⟨false, false, 0⟩, ⟨false, false, 0⟩, ⟨false, false, 0⟩, ⟨false, false, 0⟩] (by kernel_rfl) ?_; show vcOpsD _ _ _ (_ :: _) _ _)
      simp (maxSteps := 4000000) only [↓VP0, ↓VP1, ↓VP2, VQ0, VQ1, VQ2, VQ3, VQ4, VT, ite_self, ite_split, Nat.reduceEqDiff, Nat.reduceAdd, Nat.reduceSub, Nat.reduceMul, Nat.reduceLeDiff, Nat.reduceLT, Nat.reduceBEq, Int.reduceLE, Int.reduceLT, Int.reduceNeg, Int.reduceAdd, Int.reduceSub, Int.reduceToNat, ↓reduceIte, reduceCtorEq, hj3, ↓vcopyA, Int.toNat_natCast]
      repeat' (first | intro _ | refine And.intro ?_ ?_)
      all_goals try (first | omega | (simp only [List.length_map, List.length_cons, List.length_nil, List.length_append, Nat.zero_add]; omega) | exact Int.natCast_nonneg _ | exact Int.le_trans (by decide) (Int.natCast_nonneg _) | exact Nat.le_of_ble_eq_true rfl)
      have hrs := rowB_succ v y (j : Int) f
      rw [Int.toNat_natCast] at hrs
      have hflt : f < v.facts := by omega
      refine VPure.of hbj ?_
      simp (maxSteps := 4000000) only [↓VP0, ↓VP1, ↓VP2, VQ0, VQ1, VQ2, VQ3, VQ4, VT, ite_self, ite_split, Nat.reduceEqDiff, Nat.reduceAdd, Nat.reduceSub, Nat.reduceMul, Nat.reduceLeDiff, Nat.reduceLT, Nat.reduceBEq, Int.reduceLE, Int.reduceLT, Int.reduceNeg, Int.reduceAdd, Int.reduceSub, Int.reduceToNat, ↓reduceIte, reduceCtorEq]
      repeat' (first | intro _ | refine And.intro ?_ ?_)
      all_goals try (first | omega | (simp only [List.length_map, List.length_cons, List.length_nil, List.length_append, Nat.zero_add]; omega) | exact Int.natCast_nonneg _ | exact Int.le_trans (by decide) (Int.natCast_nonneg _) | exact Nat.le_of_ble_eq_true rfl)
      · have h1 : (v.copies[j]!).facts.testBit f = true := by assumption
        have h2 : (factsB v y (listTo x v.copies.length) i && rowB v y (j : Int) f) = true := by assumption
        rw [h1, Bool.not_true, Bool.false_or] at hrs
        ((refine ACall.pure (hh2 f hflt) ?_; try simp (maxSteps := 4000000) only [↓VP0, ↓VP1, ↓VP2, VQ0, VQ1, VQ2, VQ3, VQ4, VT, ite_self, ite_split, Nat.reduceEqDiff, Nat.reduceAdd, Nat.reduceSub, Nat.reduceMul, Nat.reduceLeDiff, Nat.reduceLT, Nat.reduceBEq, Int.reduceLE, Int.reduceLT, Int.reduceNeg, Int.reduceAdd, Int.reduceSub, Int.reduceToNat, ↓reduceIte, reduceCtorEq]); try simp (maxSteps := 4000000) only [↓VP0, ↓VP1, ↓VP2, VQ0, VQ1, VQ2, VQ3, VQ4, VT, ite_self, ite_split, Nat.reduceEqDiff, Nat.reduceAdd, Nat.reduceSub, Nat.reduceMul, Nat.reduceLeDiff, Nat.reduceLT, Nat.reduceBEq, Int.reduceLE, Int.reduceLT, Int.reduceNeg, Int.reduceAdd, Int.reduceSub, Int.reduceToNat, ↓reduceIte, reduceCtorEq, eq_self, decide_true, decide_false, if_true, if_false, not_true_eq_false, List.append_eq])
        have h3 := hh1 f hflt
        rw [htold j f hj1 hj2 h1] at h3
        ((refine ACall.pure (h3) ?_; try simp (maxSteps := 4000000) only [↓VP0, ↓VP1, ↓VP2, VQ0, VQ1, VQ2, VQ3, VQ4, VT, ite_self, ite_split, Nat.reduceEqDiff, Nat.reduceAdd, Nat.reduceSub, Nat.reduceMul, Nat.reduceLeDiff, Nat.reduceLT, Nat.reduceBEq, Int.reduceLE, Int.reduceLT, Int.reduceNeg, Int.reduceAdd, Int.reduceSub, Int.reduceToNat, ↓reduceIte, reduceCtorEq]); try simp (maxSteps := 4000000) only [↓VP0, ↓VP1, ↓VP2, VQ0, VQ1, VQ2, VQ3, VQ4, VT, ite_self, ite_split, Nat.reduceEqDiff, Nat.reduceAdd, Nat.reduceSub, Nat.reduceMul, Nat.reduceLeDiff, Nat.reduceLT, Nat.reduceBEq, Int.reduceLE, Int.reduceLT, Int.reduceNeg, Int.reduceAdd, Int.reduceSub, Int.reduceToNat, ↓reduceIte, reduceCtorEq, eq_self, decide_true, decide_false, if_true, if_false, not_true_eq_false, List.append_eq])
        repeat' (first | intro _ | refine And.intro ?_ ?_)
        all_goals try (first | omega | (simp only [List.length_map, List.length_cons, List.length_nil, List.length_append, Nat.zero_add]; omega) | exact Int.natCast_nonneg _ | exact Int.le_trans (by decide) (Int.natCast_nonneg _) | exact Nat.le_of_ble_eq_true rfl)
        refine ⟨f + 1, by dsimp only; omega, by dsimp only; omega, ?_⟩
        (simp only [Fits, fitsV, fitsO, fitsL, ↓upd, ↓lookV, ↓lookO, ↓lookL, Nat.reduceEqDiff, ↓reduceIte, ints, and_true, true_and, Option.some.injEq])
        rw [hrs, ← Bool.and_assoc, h2, Bool.true_and]
        simp
      · have h1 : (v.copies[j]!).facts.testBit f = true := by assumption
        have h2 : ¬ (factsB v y (listTo x v.copies.length) i && rowB v y (j : Int) f) = true := by assumption
        rw [Bool.not_eq_true] at h2
        have h3 := hh1 f hflt
        rw [htold j f hj1 hj2 h1] at h3
        ((refine ACall.pure (h3) ?_; try simp (maxSteps := 4000000) only [↓VP0, ↓VP1, ↓VP2, VQ0, VQ1, VQ2, VQ3, VQ4, VT, ite_self, ite_split, Nat.reduceEqDiff, Nat.reduceAdd, Nat.reduceSub, Nat.reduceMul, Nat.reduceLeDiff, Nat.reduceLT, Nat.reduceBEq, Int.reduceLE, Int.reduceLT, Int.reduceNeg, Int.reduceAdd, Int.reduceSub, Int.reduceToNat, ↓reduceIte, reduceCtorEq]); try simp (maxSteps := 4000000) only [↓VP0, ↓VP1, ↓VP2, VQ0, VQ1, VQ2, VQ3, VQ4, VT, ite_self, ite_split, Nat.reduceEqDiff, Nat.reduceAdd, Nat.reduceSub, Nat.reduceMul, Nat.reduceLeDiff, Nat.reduceLT, Nat.reduceBEq, Int.reduceLE, Int.reduceLT, Int.reduceNeg, Int.reduceAdd, Int.reduceSub, Int.reduceToNat, ↓reduceIte, reduceCtorEq, eq_self, decide_true, decide_false, if_true, if_false, not_true_eq_false, List.append_eq])
        repeat' (first | intro _ | refine And.intro ?_ ?_)
        all_goals try (first | omega | (simp only [List.length_map, List.length_cons, List.length_nil, List.length_append, Nat.zero_add]; omega) | exact Int.natCast_nonneg _ | exact Int.le_trans (by decide) (Int.natCast_nonneg _) | exact Nat.le_of_ble_eq_true rfl)
        refine ⟨f + 1, by dsimp only; omega, by dsimp only; omega, ?_⟩
        (simp only [Fits, fitsV, fitsO, fitsL, ↓upd, ↓lookV, ↓lookO, ↓lookL, Nat.reduceEqDiff, ↓reduceIte, ints, and_true, true_and, Option.some.injEq])
        rw [hrs, ← Bool.and_assoc, h2, Bool.false_and]
        simp
      · have h1 : ¬ (v.copies[j]!).facts.testBit f = true := by assumption
        rw [Bool.not_eq_true] at h1
        rw [h1, Bool.not_false, Bool.true_or, Bool.and_true] at hrs
        (refine ⟨f + 1, by first | omega | (dsimp only; omega), by dsimp only; omega, ?_⟩; (simp only [Fits, fitsV, fitsO, fitsL, ↓upd, ↓lookV, ↓lookO, ↓lookL, Nat.reduceEqDiff, ↓reduceIte, ints, and_true, true_and, Option.some.injEq]); try simp [hrs])
    · have hfe : f = v.facts := by omega
      subst hfe
      have hfs := factsB_succ v y hlt
      rw [hj3] at hfs
      (refine ⟨i + 1, by first | omega | (dsimp only; omega), by dsimp only; omega, ?_⟩; (simp only [Fits, fitsV, fitsO, fitsL, ↓upd, ↓lookV, ↓lookO, ↓lookL, Nat.reduceEqDiff, ↓reduceIte, ints, and_true, true_and, Option.some.injEq]); try simp [hfs])
  refine aloop (envOk _) (fun i : Nat => ⟨[(2, .v (.eptr [.int .i64 v.words, .int .i64 v.facts, .slice 1 (v.people.map AV.str), .int .i64 v.last, .slice 4 (v.copies.map vcopyA), .slice 2 (v.rules.map vruleA)])), (8, .v (.slice 1 ((listTo y v.facts).map (AV.int .i64)))),
      (9, .v (.slice 1 ((listTo (tellS v x) v.facts).map (AV.int .i64)))), (11, .v (.bool (factsB v y (listTo x v.copies.length) (listTo x v.copies.length).length && rulesB v y i))), (14, .v (.int .i64 i))], [], [], m⟩)
    (fun i => i ≤ v.rules.length) (fun i => v.rules.length - i) 0 (fun _ => rfl) (by simp) (by have : i = (listTo x v.copies.length).length := by omega
                                                                                               subst this; (simp only [Fits, fitsV, fitsO, fitsL, ↓upd, ↓lookV, ↓lookO, ↓lookL, Nat.reduceEqDiff, ↓reduceIte, ints, and_true, true_and, Option.some.injEq]); simp [rulesB]) ?_
  clear hi
  intro i hi
  simp (maxSteps := 4000000) only [↓VP0, ↓VP1, ↓VP2, VQ0, VQ1, VQ2, VQ3, VQ4, VT, ite_self, ite_split, Nat.reduceEqDiff, Nat.reduceAdd, Nat.reduceSub, Nat.reduceMul, Nat.reduceLeDiff, Nat.reduceLT, Nat.reduceBEq, Int.reduceLE, Int.reduceLT, Int.reduceNeg, Int.reduceAdd, Int.reduceSub, Int.reduceToNat, ↓reduceIte, reduceCtorEq, ↓vruleA]
  repeat' (first | intro _ | refine And.intro ?_ ?_)
  all_goals try (first | omega | (simp only [List.length_map, List.length_cons, List.length_nil, List.length_append, Nat.zero_add]; omega) | exact Int.natCast_nonneg _ | exact Int.le_trans (by decide) (Int.natCast_nonneg _) | exact Nat.le_of_ble_eq_true rfl)
  · have hlt : i < v.rules.length := by omega
    have hru := rulesB_succ v y hlt
    have eg : v.rules[i]! = v.rules[i] := getD_any hlt
    obtain ⟨_, hr2, hr3⟩ := hrl i hlt
    have hro1 := ho1 v.rules[i]! (by rw [eg]; omega)
    have hro2 := ho2 v.rules[i]! (by rw [eg]; omega)
    rw [holds_set (by rw [eg]; exact hr2)] at hro1 hro2
    have hhl := hh1 v.rules[i]!.then_ (by rw [eg]; exact hr3)
    have hho := hh2 v.rules[i]!.then_ (by rw [eg]; exact hr3)
    have hcl' := hcl v.rules[i]! (by rw [eg]; exact List.getElem_mem hlt)
    have hrb : ruleB y v.rules[i]! = (!subS v.rules[i]!.if_ y || y.testBit v.rules[i]!.then_) := rfl
    generalize hq : factsB v y (listTo x v.copies.length) (listTo x v.copies.length).length = q at *
    simp only [vruleA] at hro1 hro2
    ((refine ACall.pure (hro1) ?_; try simp (maxSteps := 4000000) only [↓VP0, ↓VP1, ↓VP2, VQ0, VQ1, VQ2, VQ3, VQ4, VT, ite_self, ite_split, Nat.reduceEqDiff, Nat.reduceAdd, Nat.reduceSub, Nat.reduceMul, Nat.reduceLeDiff, Nat.reduceLT, Nat.reduceBEq, Int.reduceLE, Int.reduceLT, Int.reduceNeg, Int.reduceAdd, Int.reduceSub, Int.reduceToNat, ↓reduceIte, reduceCtorEq]); try simp (maxSteps := 4000000) only [↓VP0, ↓VP1, ↓VP2, VQ0, VQ1, VQ2, VQ3, VQ4, VT, ite_self, ite_split, Nat.reduceEqDiff, Nat.reduceAdd, Nat.reduceSub, Nat.reduceMul, Nat.reduceLeDiff, Nat.reduceLT, Nat.reduceBEq, Int.reduceLE, Int.reduceLT, Int.reduceNeg, Int.reduceAdd, Int.reduceSub, Int.reduceToNat, ↓reduceIte, reduceCtorEq, eq_self, decide_true, decide_false, if_true, if_false, not_true_eq_false, List.append_eq])
    repeat' (first | intro _ | refine And.intro ?_ ?_)
    · have h1 : subS v.rules[i]!.if_ (tellS v x) = true := by assumption
      rw [hcl' h1] at hhl
      (repeat' (first | intro _ | refine And.intro ?_ ?_ | ((refine ACall.pure (by with_reducible assumption) ?_; try simp (maxSteps := 4000000) only [↓VP0, ↓VP1, ↓VP2, VQ0, VQ1, VQ2, VQ3, VQ4, VT, ite_self, ite_split, Nat.reduceEqDiff, Nat.reduceAdd, Nat.reduceSub, Nat.reduceMul, Nat.reduceLeDiff, Nat.reduceLT, Nat.reduceBEq, Int.reduceLE, Int.reduceLT, Int.reduceNeg, Int.reduceAdd, Int.reduceSub, Int.reduceToNat, ↓reduceIte, reduceCtorEq]); try simp (maxSteps := 4000000) only [↓VP0, ↓VP1, ↓VP2, VQ0, VQ1, VQ2, VQ3, VQ4, VT, ite_self, ite_split, Nat.reduceEqDiff, Nat.reduceAdd, Nat.reduceSub, Nat.reduceMul, Nat.reduceLeDiff, Nat.reduceLT, Nat.reduceBEq, Int.reduceLE, Int.reduceLT, Int.reduceNeg, Int.reduceAdd, Int.reduceSub, Int.reduceToNat, ↓reduceIte, reduceCtorEq, eq_self, decide_true, decide_false, if_true, if_false, not_true_eq_false, List.append_eq]) | (refine VPure.of (by with_reducible assumption) ?_; try simp (maxSteps := 4000000) only [↓VP0, ↓VP1, ↓VP2, VQ0, VQ1, VQ2, VQ3, VQ4, VT, ite_self, ite_split, Nat.reduceEqDiff, Nat.reduceAdd, Nat.reduceSub, Nat.reduceMul, Nat.reduceLeDiff, Nat.reduceLT, Nat.reduceBEq, Int.reduceLE, Int.reduceLT, Int.reduceNeg, Int.reduceAdd, Int.reduceSub, Int.reduceToNat, ↓reduceIte, reduceCtorEq, eq_self, decide_true, decide_false, if_true, if_false, not_true_eq_false, List.append_eq])))
      all_goals try (first | omega | (simp only [List.length_map, List.length_cons, List.length_nil, List.length_append, Nat.zero_add]; omega) | exact Int.natCast_nonneg _ | exact Int.le_trans (by decide) (Int.natCast_nonneg _) | exact Nat.le_of_ble_eq_true rfl)
      all_goals
        refine ⟨i + 1, by dsimp only; omega, by dsimp only; omega, ?_⟩
        (simp only [Fits, fitsV, fitsO, fitsL, ↓upd, ↓lookV, ↓lookO, ↓lookL, Nat.reduceEqDiff, ↓reduceIte, ints, and_true, true_and, Option.some.injEq])
        rw [hru, hrb, ← Bool.and_assoc]
        first
          | (have e1 : (q && rulesB v y i) = false := by (first | assumption | (rw [← Bool.not_eq_false]; assumption) | (rw [← Bool.not_eq_true]; assumption) | omega)
             rw [e1]; simp; done)
          | (have e1 : (q && rulesB v y i) = true := by (first | assumption | (rw [← Bool.not_eq_false]; assumption) | (rw [← Bool.not_eq_true]; assumption) | omega)
             have e2 : subS v.rules[i]!.if_ y = true := by (first | assumption | (rw [← Bool.not_eq_false]; assumption) | (rw [← Bool.not_eq_true]; assumption) | omega)
             rw [e1, e2]; simp; done)
          | (have e1 : (q && rulesB v y i) = true := by (first | assumption | (rw [← Bool.not_eq_false]; assumption) | (rw [← Bool.not_eq_true]; assumption) | omega)
             have e2 : subS v.rules[i]!.if_ y = false := by (first | assumption | (rw [← Bool.not_eq_false]; assumption) | (rw [← Bool.not_eq_true]; assumption) | omega)
             rw [e1, e2]; simp; done)
    all_goals
      (repeat' (first | intro _ | refine And.intro ?_ ?_ | ((refine ACall.pure (by with_reducible assumption) ?_; try simp (maxSteps := 4000000) only [↓VP0, ↓VP1, ↓VP2, VQ0, VQ1, VQ2, VQ3, VQ4, VT, ite_self, ite_split, Nat.reduceEqDiff, Nat.reduceAdd, Nat.reduceSub, Nat.reduceMul, Nat.reduceLeDiff, Nat.reduceLT, Nat.reduceBEq, Int.reduceLE, Int.reduceLT, Int.reduceNeg, Int.reduceAdd, Int.reduceSub, Int.reduceToNat, ↓reduceIte, reduceCtorEq]); try simp (maxSteps := 4000000) only [↓VP0, ↓VP1, ↓VP2, VQ0, VQ1, VQ2, VQ3, VQ4, VT, ite_self, ite_split, Nat.reduceEqDiff, Nat.reduceAdd, Nat.reduceSub, Nat.reduceMul, Nat.reduceLeDiff, Nat.reduceLT, Nat.reduceBEq, Int.reduceLE, Int.reduceLT, Int.reduceNeg, Int.reduceAdd, Int.reduceSub, Int.reduceToNat, ↓reduceIte, reduceCtorEq, eq_self, decide_true, decide_false, if_true, if_false, not_true_eq_false, List.append_eq]) | (refine VPure.of (by with_reducible assumption) ?_; try simp (maxSteps := 4000000) only [↓VP0, ↓VP1, ↓VP2, VQ0, VQ1, VQ2, VQ3, VQ4, VT, ite_self, ite_split, Nat.reduceEqDiff, Nat.reduceAdd, Nat.reduceSub, Nat.reduceMul, Nat.reduceLeDiff, Nat.reduceLT, Nat.reduceBEq, Int.reduceLE, Int.reduceLT, Int.reduceNeg, Int.reduceAdd, Int.reduceSub, Int.reduceToNat, ↓reduceIte, reduceCtorEq, eq_self, decide_true, decide_false, if_true, if_false, not_true_eq_false, List.append_eq])))
      all_goals try (first | omega | (simp only [List.length_map, List.length_cons, List.length_nil, List.length_append, Nat.zero_add]; omega) | exact Int.natCast_nonneg _ | exact Int.le_trans (by decide) (Int.natCast_nonneg _) | exact Nat.le_of_ble_eq_true rfl)
    all_goals
      refine ⟨i + 1, by dsimp only; omega, by dsimp only; omega, ?_⟩
      (simp only [Fits, fitsV, fitsO, fitsL, ↓upd, ↓lookV, ↓lookO, ↓lookL, Nat.reduceEqDiff, ↓reduceIte, ints, and_true, true_and, Option.some.injEq])
      rw [hru, hrb, ← Bool.and_assoc]
      first
        | (have e1 : (q && rulesB v y i) = false := by (first | assumption | (rw [← Bool.not_eq_false]; assumption) | (rw [← Bool.not_eq_true]; assumption) | omega)
           rw [e1]; simp; done)
        | (have e1 : (q && rulesB v y i) = true := by (first | assumption | (rw [← Bool.not_eq_false]; assumption) | (rw [← Bool.not_eq_true]; assumption) | omega)
           have e2 : subS v.rules[i]!.if_ y = true := by (first | assumption | (rw [← Bool.not_eq_false]; assumption) | (rw [← Bool.not_eq_true]; assumption) | omega)
           rw [e1, e2]; simp; done)
        | (have e1 : (q && rulesB v y i) = true := by (first | assumption | (rw [← Bool.not_eq_false]; assumption) | (rw [← Bool.not_eq_true]; assumption) | omega)
           have e2 : subS v.rules[i]!.if_ y = false := by (first | assumption | (rw [← Bool.not_eq_false]; assumption) | (rw [← Bool.not_eq_true]; assumption) | omega)
           rw [e1, e2]; simp; done)
  · have e1 : i = v.rules.length := by omega
    subst e1
    ((refine ACall.pure (s1 (by assumption)) ?_; try simp (maxSteps := 4000000) only [↓VP0, ↓VP1, ↓VP2, VQ0, VQ1, VQ2, VQ3, VQ4, VT, ite_self, ite_split, Nat.reduceEqDiff, Nat.reduceAdd, Nat.reduceSub, Nat.reduceMul, Nat.reduceLeDiff, Nat.reduceLT, Nat.reduceBEq, Int.reduceLE, Int.reduceLT, Int.reduceNeg, Int.reduceAdd, Int.reduceSub, Int.reduceToNat, ↓reduceIte, reduceCtorEq]); try simp (maxSteps := 4000000) only [↓VP0, ↓VP1, ↓VP2, VQ0, VQ1, VQ2, VQ3, VQ4, VT, ite_self, ite_split, Nat.reduceEqDiff, Nat.reduceAdd, Nat.reduceSub, Nat.reduceMul, Nat.reduceLeDiff, Nat.reduceLT, Nat.reduceBEq, Int.reduceLE, Int.reduceLT, Int.reduceNeg, Int.reduceAdd, Int.reduceSub, Int.reduceToNat, ↓reduceIte, reduceCtorEq, eq_self, decide_true, decide_false, if_true, if_false, not_true_eq_false, List.append_eq])
    ((refine ACall.pure (awake_c) ?_; try simp (maxSteps := 4000000) only [↓VP0, ↓VP1, ↓VP2, VQ0, VQ1, VQ2, VQ3, VQ4, VT, ite_self, ite_split, Nat.reduceEqDiff, Nat.reduceAdd, Nat.reduceSub, Nat.reduceMul, Nat.reduceLeDiff, Nat.reduceLT, Nat.reduceBEq, Int.reduceLE, Int.reduceLT, Int.reduceNeg, Int.reduceAdd, Int.reduceSub, Int.reduceToNat, ↓reduceIte, reduceCtorEq]); try simp (maxSteps := 4000000) only [↓VP0, ↓VP1, ↓VP2, VQ0, VQ1, VQ2, VQ3, VQ4, VT, ite_self, ite_split, Nat.reduceEqDiff, Nat.reduceAdd, Nat.reduceSub, Nat.reduceMul, Nat.reduceLeDiff, Nat.reduceLT, Nat.reduceBEq, Int.reduceLE, Int.reduceLT, Int.reduceNeg, Int.reduceAdd, Int.reduceSub, Int.reduceToNat, ↓reduceIte, reduceCtorEq, eq_self, decide_true, decide_false, if_true, if_false, not_true_eq_false, List.append_eq])
  · ((refine ACall.pure (awake_c) ?_; try simp (maxSteps := 4000000) only [↓VP0, ↓VP1, ↓VP2, VQ0, VQ1, VQ2, VQ3, VQ4, VT, ite_self, ite_split, Nat.reduceEqDiff, Nat.reduceAdd, Nat.reduceSub, Nat.reduceMul, Nat.reduceLeDiff, Nat.reduceLT, Nat.reduceBEq, Int.reduceLE, Int.reduceLT, Int.reduceNeg, Int.reduceAdd, Int.reduceSub, Int.reduceToNat, ↓reduceIte, reduceCtorEq]); try simp (maxSteps := 4000000) only [↓VP0, ↓VP1, ↓VP2, VQ0, VQ1, VQ2, VQ3, VQ4, VT, ite_self, ite_split, Nat.reduceEqDiff, Nat.reduceAdd, Nat.reduceSub, Nat.reduceMul, Nat.reduceLeDiff, Nat.reduceLT, Nat.reduceBEq, Int.reduceLE, Int.reduceLT, Int.reduceNeg, Int.reduceAdd, Int.reduceSub, Int.reduceToNat, ↓reduceIte, reduceCtorEq, eq_self, decide_true, decide_false, if_true, if_false, not_true_eq_false, List.append_eq])

theorem chestTold_c (c : RChest) (l : List Nat) (hl : l.length = 2) (hb : ∀ x ∈ l, x < 256) (hs : namesFit c) :
    PCall Try.prog 11 [chestA c, bytesA l] (.bool true) := by
  match l, hl with
  | [x, y], _ =>
    by_cases h : (checkR c).2.2 = 0
    · obtain ⟨e1, hv⟩ := valid_v h
      rw [e1] at hs
      rw [e1, vchestA_raw]
      exact chestTold_ok c.v hv hs x y (hb x (by simp)) (hb y (by simp))
    · exact chestTold_bad c hs x y h
end Go.Proofs.Ytakkdmdkelbnjaa.Abs

namespace Go.Proofs.Ytakkdmdkelbnjaa
set_option linter.unusedSimpArgs false
open Go Go.RowKit Go.Proofs Abs
set_option maxRecDepth 100000

theorem chestTold_types : LawTypes Try.prog Try.f11 [26, 45] 4 5 := by
  refine ⟨by rw [Try.params11], by kernel_rfl, Try.underlying4, laid_ok, fun t h => ?_⟩
  simp only [List.mem_cons, List.not_mem_nil, or_false] at h
  rcases h with rfl | rfl
  · exact plain26
  · exact plain45

theorem chestTold_all (xs : List AV) (h : GoodAll Try.prog [26, 45] xs) : ∃ K : AV → Mem → Prop, ACall Try.prog 11 xs (fun _ => .none) K ∧ ∀ r m, K r m → r = .bool true := by
  match xs, h with
  | [a0, a1], ⟨⟨l0, g0, h0⟩, ⟨l1, g1, h1⟩, _⟩ =>
    obtain ⟨c, hc, e0⟩ := open_chest g0
    obtain ⟨y, e1, hyn, hyb⟩ := (fun h => bytes_inv Try.underlying45 h) g1
    rw [h0, e0, h1, e1]
    exact ⟨_, chestTold_c c y hyn hyb hc.names _, fun r m h => h.1⟩

theorem chestTold_lifted (os : Os) (started : os.Started) (H : Type) (enc : TypeId × Value → H) :
    ReturnsInHanded {} Try.checked os 11 .any (Rows.chestToldSpec.pre6 enc Try.prog Try.f11 Rows.chestToldRow.domain false) (Rows.chestToldSpec.post enc Try.prog Try.f11 false true false false) := by
  refine returnsInHanded_of_change (C := Try.checked) own_ok started (by kernel_rfl) Try.func11
    (ChangeSpec.witness6 (enc := enc) (C := Try.checked) false ⟨#[], #[.agg #[.int .i64 0, .int .i64 0, .slice .none 0 0, .int .i64 0, .slice .none 0 0, .slice .none 0 0], .agg #[.int .u8 0, .int .u8 0]], []⟩ 8 (by kernel_rfl) (by kernel_rfl) (by kernel_rfl) (by kernel_rfl)) ?_
  intro W base args ds gs before hval hW _ _
  refine law_contract chestTold_types rfl (fun ds hds => ?_) chestTold_all W base args ds gs before hval hW
  match ds, hds with
  | [d0, d1], _ => rfl

theorem chestTold_holds : Rows.ChestToldSaid :=
  OpenClaim.holds_of_wide 11 Try.f11 rfl rfl rfl rfl rfl rfl rfl ⟨rfl, rfl, rfl, rfl, rfl⟩ rfl rfl rfl rfl rfl (by kernel_rfl) Try.func11 (by kernel_rfl)
    (of_decide_eq_true (by kernel_rfl)) (by unfold Func.isWrapper; first | (rw [if_pos (by decide +kernel)]; kernel_rfl) | (rw [if_neg (by decide +kernel)]; exact ⟨rfl, rfl⟩))
    (fun os started H enc _ => chestTold_lifted os started H enc)
end Go.Proofs.Ytakkdmdkelbnjaa
