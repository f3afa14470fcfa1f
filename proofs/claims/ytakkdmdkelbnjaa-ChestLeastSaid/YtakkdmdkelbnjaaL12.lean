/- The statement ChestLeast: for any chest, person and copies the law returns true. Conditions: none. -/
import Derived.Test.YtakkdmdkelbnjaaK11
import Derived.Test.YtakkdmdkelbnjaaK10
namespace Go.Proofs.Ytakkdmdkelbnjaa.Abs
set_option linter.unusedSimpArgs false
set_option maxHeartbeats 4000000
set_option maxRecDepth 100000
open Go Go.RowKit Go.Proofs

theorem chestLeast_bad (c : RChest) (hs : namesFit c) (hpl : c.people.length ≤ 9223372036854775807) (x y : Nat) (h : ¬ ((checkR c).2.2 = 0 ∧ 0 < c.people.length)) :
    PCall Try.prog 14 [chestA c, .agg [.int .u8 x, .int .u8 y]] (.bool true) := by
  intro m
  have h1 := peopled_no c hs h
  have h2 := least_top c hs 0 hpl
  have h3 := least_bad h
  generalize leastR c 0 = k at *
  simp only [chestA, chestL, strs, ints, List.map_nil] at *
  (refine acall_intro (E := env fun _ => .imm) (envOk _) rfl Try.func14 rfl Try.call14 (by kernel_rfl) (by simp [Try.ntmps14]) ?_; simp only [Try.f14];  simp (maxSteps := 4000000) only [↓VP0, ↓VP1, ↓VP2, VQ0, VQ1, VQ2, VQ3, VQ4, VT, ite_self, ite_split, Nat.reduceEqDiff, Nat.reduceAdd, Nat.reduceSub, Nat.reduceMul, Nat.reduceLeDiff, Nat.reduceLT, Nat.reduceBEq, Int.reduceLE, Int.reduceLT, Int.reduceNeg, Int.reduceAdd, Int.reduceSub, Int.reduceToNat, ↓reduceIte, reduceCtorEq])
  ((refine ACall.pure (h1) ?_; try simp (maxSteps := 4000000) only [↓VP0, ↓VP1, ↓VP2, VQ0, VQ1, VQ2, VQ3, VQ4, VT, ite_self, ite_split, Nat.reduceEqDiff, Nat.reduceAdd, Nat.reduceSub, Nat.reduceMul, Nat.reduceLeDiff, Nat.reduceLT, Nat.reduceBEq, Int.reduceLE, Int.reduceLT, Int.reduceNeg, Int.reduceAdd, Int.reduceSub, Int.reduceToNat, ↓reduceIte, reduceCtorEq]); try simp (maxSteps := 4000000) only [↓VP0, ↓VP1, ↓VP2, VQ0, VQ1, VQ2, VQ3, VQ4, VT, ite_self, ite_split, Nat.reduceEqDiff, Nat.reduceAdd, Nat.reduceSub, Nat.reduceMul, Nat.reduceLeDiff, Nat.reduceLT, Nat.reduceBEq, Int.reduceLE, Int.reduceLT, Int.reduceNeg, Int.reduceAdd, Int.reduceSub, Int.reduceToNat, ↓reduceIte, reduceCtorEq, eq_self, decide_true, decide_false, if_true, if_false, not_true_eq_false, List.append_eq])
  ((refine ACall.pure (h2) ?_; try simp (maxSteps := 4000000) only [↓VP0, ↓VP1, ↓VP2, VQ0, VQ1, VQ2, VQ3, VQ4, VT, ite_self, ite_split, Nat.reduceEqDiff, Nat.reduceAdd, Nat.reduceSub, Nat.reduceMul, Nat.reduceLeDiff, Nat.reduceLT, Nat.reduceBEq, Int.reduceLE, Int.reduceLT, Int.reduceNeg, Int.reduceAdd, Int.reduceSub, Int.reduceToNat, ↓reduceIte, reduceCtorEq]); try simp (maxSteps := 4000000) only [↓VP0, ↓VP1, ↓VP2, VQ0, VQ1, VQ2, VQ3, VQ4, VT, ite_self, ite_split, Nat.reduceEqDiff, Nat.reduceAdd, Nat.reduceSub, Nat.reduceMul, Nat.reduceLeDiff, Nat.reduceLT, Nat.reduceBEq, Int.reduceLE, Int.reduceLT, Int.reduceNeg, Int.reduceAdd, Int.reduceSub, Int.reduceToNat, ↓reduceIte, reduceCtorEq, eq_self, decide_true, decide_false, if_true, if_false, not_true_eq_false, List.append_eq])
  simp (maxSteps := 4000000) only [↓VP0, ↓VP1, ↓VP2, VQ0, VQ1, VQ2, VQ3, VQ4, VT, ite_self, ite_split, Nat.reduceEqDiff, Nat.reduceAdd, Nat.reduceSub, Nat.reduceMul, Nat.reduceLeDiff, Nat.reduceLT, Nat.reduceBEq, Int.reduceLE, Int.reduceLT, Int.reduceNeg, Int.reduceAdd, Int.reduceSub, Int.reduceToNat, ↓reduceIte, reduceCtorEq, h3]
  ((refine ACall.pure (awake_c) ?_; try simp (maxSteps := 4000000) only [↓VP0, ↓VP1, ↓VP2, VQ0, VQ1, VQ2, VQ3, VQ4, VT, ite_self, ite_split, Nat.reduceEqDiff, Nat.reduceAdd, Nat.reduceSub, Nat.reduceMul, Nat.reduceLeDiff, Nat.reduceLT, Nat.reduceBEq, Int.reduceLE, Int.reduceLT, Int.reduceNeg, Int.reduceAdd, Int.reduceSub, Int.reduceToNat, ↓reduceIte, reduceCtorEq]); try simp (maxSteps := 4000000) only [↓VP0, ↓VP1, ↓VP2, VQ0, VQ1, VQ2, VQ3, VQ4, VT, ite_self, ite_split, Nat.reduceEqDiff, Nat.reduceAdd, Nat.reduceSub, Nat.reduceMul, Nat.reduceLeDiff, Nat.reduceLT, Nat.reduceBEq, Int.reduceLE, Int.reduceLT, Int.reduceNeg, Int.reduceAdd, Int.reduceSub, Int.reduceToNat, ↓reduceIte, reduceCtorEq, eq_self, decide_true, decide_false, if_true, if_false, not_true_eq_false, List.append_eq])

theorem chestLeast_ok (v : VChest) (hv : VOk v) (hs : namesFit v.raw) (x y : Nat) (hp : 0 < v.people.length) (hx : x < 256) (hy : y < 256) :
    PCall Try.prog 14 [vchestA v, .agg [.int .u8 x, .int .u8 y]] (.bool true) := by
  intro m
  have h3 := hv.p
  have hc6 := hv.c
  have hf6 := hv.f
  have h1 := peopled_yes v hv hs hp
  have hpp : x % v.people.length < v.people.length := Nat.mod_lt _ hp
  generalize hP : x % v.people.length = p at *
  have k1 := lawbits_c y v.copies.length hy (by omega)
  have o1 := find_all v hv hs hpp
  have q := least_top v.raw hs (p : Nat) (by show v.people.length ≤ _; omega)
  rw [vchestA_raw, least_v hv hpp] at q
  obtain ⟨r, e, hsub, hall, hfew⟩ := least_law v hv hpp
  rw [e] at q
  have r1 := rising_ok r v.copies.length
  have r2 := rising_ok (viewS v p) v.copies.length
  have s1 := subset_ok (Nat.le_refl _) hsub
  have a1 := knows_ok v hv hs (viewS v p)
  have a2 := knows_ok v hv hs r
  have a3 := knows_ok v hv hs (y &&& viewS v p)
  rw [hall] at a2
  have b1 := ints_c (listTo (tellS v (viewS v p)) v.facts) (listTo (tellS v (viewS v p)) v.facts)
  rw [decide_eq_true rfl] at b1
  have b2 := ints_c (listTo (tellS v (viewS v p)) v.facts) (listTo (tellS v (y &&& viewS v p)) v.facts)
  have f1 := fewer_c (listTo (y &&& viewS v p) v.copies.length) (listTo r v.copies.length)
  have aw := awake_c
  have hh := fun i => has_c (listTo (viewS v p) v.copies.length) i
  have hend : ∀ k, (listTo y v.copies.length).length ≤ k → inTo (listTo y v.copies.length) (listTo (viewS v p) v.copies.length) k = listTo (y &&& viewS v p) v.copies.length := fun k hk => inTo_all _ _ _ hk
  have hl6 := listTo_six y hc6
  have hfew' : decide (listTo (tellS v (viewS v p)) v.facts = listTo (tellS v (y &&& viewS v p)) v.facts) = true → fewerL (listTo (y &&& viewS v p) v.copies.length) (listTo r v.copies.length) = false := fun h => hfew y (by
    have h' := of_decide_eq_true h
    rw [← tell_set v hv, ← tell_set v hv] at h'
    have lt := fun s => Nat.lt_of_lt_of_le (tellS_lt v hv s) (Nat.pow_le_pow_right (n := 2) (by decide) (show v.facts ≤ 62 by omega))
    exact (listS_inj (lt _) (lt _) h').symm)
  cases hA : decide (listTo (tellS v (viewS v p)) v.facts = listTo (tellS v (y &&& viewS v p)) v.facts)
  all_goals
    rw [hA] at b2
    try rw [hfew' hA] at f1
    simp only [vchestA, vchestL, strs, ints, List.map_nil] at *
    (refine acall_intro (E := env fun _ => .imm) (envOk _) rfl Try.func14 rfl Try.call14 (by kernel_rfl) (by simp [Try.ntmps14]) ?_; simp only [Try.f14];  simp (maxSteps := 4000000) only [↓VP0, ↓VP1, ↓VP2, VQ0, VQ1, VQ2, VQ3, VQ4, VT, ite_self, ite_split, Nat.reduceEqDiff, Nat.reduceAdd, Nat.reduceSub, Nat.reduceMul, Nat.reduceLeDiff, Nat.reduceLT, Nat.reduceBEq, Int.reduceLE, Int.reduceLT, Int.reduceNeg, Int.reduceAdd, Int.reduceSub, Int.reduceToNat, ↓reduceIte, reduceCtorEq])
    (repeat' (first | intro _ | refine And.intro ?_ ?_ | (refine ACall.pure (by with_reducible assumption) ?_; try simp (maxSteps := 4000000) only [↓VP0, ↓VP1, ↓VP2, VQ0, VQ1, VQ2, VQ3, VQ4, VT, ite_self, ite_split, Nat.reduceEqDiff, Nat.reduceAdd, Nat.reduceSub, Nat.reduceMul, Nat.reduceLeDiff, Nat.reduceLT, Nat.reduceBEq, Int.reduceLE, Int.reduceLT, Int.reduceNeg, Int.reduceAdd, Int.reduceSub, Int.reduceToNat, ↓reduceIte, reduceCtorEq, eq_self, decide_true, decide_false, if_true, if_false, not_true_eq_false, List.append_eq, natMod, hP]) | (refine VPure.of (by with_reducible assumption) ?_; try simp (maxSteps := 4000000) only [↓VP0, ↓VP1, ↓VP2, VQ0, VQ1, VQ2, VQ3, VQ4, VT, ite_self, ite_split, Nat.reduceEqDiff, Nat.reduceAdd, Nat.reduceSub, Nat.reduceMul, Nat.reduceLeDiff, Nat.reduceLT, Nat.reduceBEq, Int.reduceLE, Int.reduceLT, Int.reduceNeg, Int.reduceAdd, Int.reduceSub, Int.reduceToNat, ↓reduceIte, reduceCtorEq, eq_self, decide_true, decide_false, if_true, if_false, not_true_eq_false, List.append_eq, natMod, hP])))
    all_goals try (first | omega | (simp only [List.length_map, List.length_cons, List.length_nil, List.length_append, Nat.zero_add]; omega) | exact Int.natCast_nonneg _ | exact Int.le_trans (by decide) (Int.natCast_nonneg _) | exact Nat.le_of_ble_eq_true rfl)
    refine aloop (envOk _) (fun k : Nat => ⟨[(2, .v (.eptr [.int .i64 v.words, .int .i64 v.facts, .slice 1 (v.people.map AV.str), .int .i64 v.last, .slice 4 (v.copies.map vcopyA), .slice 2 (v.rules.map vruleA)])), (8, .v (.slice 1 ((listTo (viewS v p) v.copies.length).map (AV.int .i64)))), (10, .v (.slice 1 ((listTo r v.copies.length).map (AV.int .i64)))),
        (12, .v (.slice 1 ((listTo y v.copies.length).map (AV.int .i64)))), (13, .v (.slice 1 ((inTo (listTo y v.copies.length) (listTo (viewS v p) v.copies.length) k).map (AV.int .i64)))), (14, .v (.int .i64 k))], [13], [], m⟩)
      (fun k => k ≤ (listTo y v.copies.length).length) (fun k => (listTo y v.copies.length).length - k) 0 (fun _ => rfl) (by simp) (by (simp only [Fits, fitsV, fitsO, fitsL, ↓upd, ↓lookV, ↓lookO, ↓lookL, Nat.reduceEqDiff, ↓reduceIte, ints, and_true, true_and, Option.some.injEq]); simp [inTo]) ?_
    intro k hk
    have hlen := inTo_length (listTo y v.copies.length) (listTo (viewS v p) v.copies.length) k
    simp (maxSteps := 4000000) only [↓VP0, ↓VP1, ↓VP2, VQ0, VQ1, VQ2, VQ3, VQ4, VT, ite_self, ite_split, Nat.reduceEqDiff, Nat.reduceAdd, Nat.reduceSub, Nat.reduceMul, Nat.reduceLeDiff, Nat.reduceLT, Nat.reduceBEq, Int.reduceLE, Int.reduceLT, Int.reduceNeg, Int.reduceAdd, Int.reduceSub, Int.reduceToNat, ↓reduceIte, reduceCtorEq]
    repeat' (first | intro _ | refine And.intro ?_ ?_)
    all_goals try (first | omega | (simp only [List.length_map, List.length_cons, List.length_nil, List.length_append, Nat.zero_add]; omega) | exact Int.natCast_nonneg _ | exact Int.le_trans (by decide) (Int.natCast_nonneg _) | exact Nat.le_of_ble_eq_true rfl)
    · have hlt : k < (listTo y v.copies.length).length := by omega
      have hs2 := inTo_succ (b := listTo (viewS v p) v.copies.length) hlt
      ((refine ACall.pure (hh _) ?_; try simp (maxSteps := 4000000) only [↓VP0, ↓VP1, ↓VP2, VQ0, VQ1, VQ2, VQ3, VQ4, VT, ite_self, ite_split, Nat.reduceEqDiff, Nat.reduceAdd, Nat.reduceSub, Nat.reduceMul, Nat.reduceLeDiff, Nat.reduceLT, Nat.reduceBEq, Int.reduceLE, Int.reduceLT, Int.reduceNeg, Int.reduceAdd, Int.reduceSub, Int.reduceToNat, ↓reduceIte, reduceCtorEq]); try simp (maxSteps := 4000000) only [↓VP0, ↓VP1, ↓VP2, VQ0, VQ1, VQ2, VQ3, VQ4, VT, ite_self, ite_split, Nat.reduceEqDiff, Nat.reduceAdd, Nat.reduceSub, Nat.reduceMul, Nat.reduceLeDiff, Nat.reduceLT, Nat.reduceBEq, Int.reduceLE, Int.reduceLT, Int.reduceNeg, Int.reduceAdd, Int.reduceSub, Int.reduceToNat, ↓reduceIte, reduceCtorEq, eq_self, decide_true, decide_false, if_true, if_false, not_true_eq_false, List.append_eq])
      repeat' (first | intro _ | refine And.intro ?_ ?_)
      all_goals try (first | omega | (simp only [List.length_map, List.length_cons, List.length_nil, List.length_append, Nat.zero_add]; omega) | exact Int.natCast_nonneg _ | exact Int.le_trans (by decide) (Int.natCast_nonneg _) | exact Nat.le_of_ble_eq_true rfl)
      · have h : (listTo y v.copies.length)[k]! ∈ listTo (viewS v p) v.copies.length := by assumption
        rw [if_pos h] at hs2
        (refine ⟨k + 1, by first | omega | (dsimp only; omega), by dsimp only; omega, ?_⟩; (simp only [Fits, fitsV, fitsO, fitsL, ↓upd, ↓lookV, ↓lookO, ↓lookL, Nat.reduceEqDiff, ↓reduceIte, ints, and_true, true_and, Option.some.injEq]); try simp [hs2])
      · have h : ¬ (listTo y v.copies.length)[k]! ∈ listTo (viewS v p) v.copies.length := by assumption
        rw [if_neg h] at hs2
        (refine ⟨k + 1, by first | omega | (dsimp only; omega), by dsimp only; omega, ?_⟩; (simp only [Fits, fitsV, fitsO, fitsL, ↓upd, ↓lookV, ↓lookO, ↓lookL, Nat.reduceEqDiff, ↓reduceIte, ints, and_true, true_and, Option.some.injEq]); try simp [hs2])
    · have hend' := hend k (by omega)

      (repeat' (first | intro _ | refine And.intro ?_ ?_ | (refine ACall.pure (by with_reducible assumption) ?_; try simp (maxSteps := 4000000) only [↓VP0, ↓VP1, ↓VP2, VQ0, VQ1, VQ2, VQ3, VQ4, VT, ite_self, ite_split, Nat.reduceEqDiff, Nat.reduceAdd, Nat.reduceSub, Nat.reduceMul, Nat.reduceLeDiff, Nat.reduceLT, Nat.reduceBEq, Int.reduceLE, Int.reduceLT, Int.reduceNeg, Int.reduceAdd, Int.reduceSub, Int.reduceToNat, ↓reduceIte, reduceCtorEq, eq_self, decide_true, decide_false, if_true, if_false, not_true_eq_false, List.append_eq, hend']) | (refine VPure.of (by with_reducible assumption) ?_; try simp (maxSteps := 4000000) only [↓VP0, ↓VP1, ↓VP2, VQ0, VQ1, VQ2, VQ3, VQ4, VT, ite_self, ite_split, Nat.reduceEqDiff, Nat.reduceAdd, Nat.reduceSub, Nat.reduceMul, Nat.reduceLeDiff, Nat.reduceLT, Nat.reduceBEq, Int.reduceLE, Int.reduceLT, Int.reduceNeg, Int.reduceAdd, Int.reduceSub, Int.reduceToNat, ↓reduceIte, reduceCtorEq, eq_self, decide_true, decide_false, if_true, if_false, not_true_eq_false, List.append_eq, hend'])))
      all_goals try (first | omega | (simp only [List.length_map, List.length_cons, List.length_nil, List.length_append, Nat.zero_add]; omega) | exact Int.natCast_nonneg _ | exact Int.le_trans (by decide) (Int.natCast_nonneg _) | exact Nat.le_of_ble_eq_true rfl)

theorem chestLeast_c (c : RChest) (l : List Nat) (hl : l.length = 2) (hb : ∀ x ∈ l, x < 256) (hs : namesFit c) (hpl : c.people.length ≤ 9223372036854775807) :
    PCall Try.prog 14 [chestA c, bytesA l] (.bool true) := by
  match l, hl with
  | [x, y], _ =>
    by_cases h : (checkR c).2.2 = 0 ∧ 0 < c.people.length
    · obtain ⟨e1, hv⟩ := valid_v h.1
      have hp : 0 < c.v.people.length := h.2
      rw [e1] at hs
      rw [e1, vchestA_raw]
      exact chestLeast_ok c.v hv hs x y hp (hb x (by simp)) (hb y (by simp))
    · exact chestLeast_bad c hs hpl x y h
end Go.Proofs.Ytakkdmdkelbnjaa.Abs

namespace Go.Proofs.Ytakkdmdkelbnjaa
set_option linter.unusedSimpArgs false
open Go Go.RowKit Go.Proofs Abs
set_option maxRecDepth 100000

theorem chestLeast_types : LawTypes Try.prog Try.f14 [26, 45] 4 5 := by
  refine ⟨by rw [Try.params14], by kernel_rfl, Try.underlying4, laid_ok, fun t h => ?_⟩
  simp only [List.mem_cons, List.not_mem_nil, or_false] at h
  rcases h with rfl | rfl
  · exact plain26
  · exact plain45

theorem chestLeast_all (xs : List AV) (h : GoodAll Try.prog [26, 45] xs) : ∃ K : AV → Mem → Prop, ACall Try.prog 14 xs (fun _ => .none) K ∧ ∀ r m, K r m → r = .bool true := by
  match xs, h with
  | [a0, a1], ⟨⟨l0, g0, h0⟩, ⟨l1, g1, h1⟩, _⟩ =>
    obtain ⟨c, hc, e0⟩ := open_chest g0
    obtain ⟨y, e1, hyn, hyb⟩ := (fun h => bytes_inv Try.underlying45 h) g1
    rw [h0, e0, h1, e1]
    exact ⟨_, chestLeast_c c y hyn hyb hc.names hc.people _, fun r m h => h.1⟩

theorem chestLeast_lifted (os : Os) (started : os.Started) (H : Type) (enc : TypeId × Value → H) :
    ReturnsInHanded {} Try.checked os 14 .any (Rows.chestLeastSpec.pre6 enc Try.prog Try.f14 Rows.chestLeastRow.domain false) (Rows.chestLeastSpec.post enc Try.prog Try.f14 false true false false) := by
  refine returnsInHanded_of_change (C := Try.checked) own_ok started (by kernel_rfl) Try.func14
    (ChangeSpec.witness6 (enc := enc) (C := Try.checked) false ⟨#[], #[.agg #[.int .i64 0, .int .i64 0, .slice .none 0 0, .int .i64 0, .slice .none 0 0, .slice .none 0 0], .agg #[.int .u8 0, .int .u8 0]], []⟩ 8 (by kernel_rfl) (by kernel_rfl) (by kernel_rfl) (by kernel_rfl)) ?_
  intro W base args ds gs before hval hW _ _
  refine law_contract chestLeast_types rfl (fun ds hds => ?_) chestLeast_all W base args ds gs before hval hW
  match ds, hds with
  | [d0, d1], _ => rfl

theorem chestLeast_holds : Rows.ChestLeastSaid :=
  OpenClaim.holds_of_wide 14 Try.f14 rfl rfl rfl rfl rfl rfl rfl ⟨rfl, rfl, rfl, rfl, rfl⟩ rfl rfl rfl rfl rfl (by kernel_rfl) Try.func14 (by kernel_rfl)
    (of_decide_eq_true (by kernel_rfl)) (by unfold Func.isWrapper; first | (rw [if_pos (by decide +kernel)]; kernel_rfl) | (rw [if_neg (by decide +kernel)]; exact ⟨rfl, rfl⟩))
    (fun os started H enc _ => chestLeast_lifted os started H enc)
end Go.Proofs.Ytakkdmdkelbnjaa
