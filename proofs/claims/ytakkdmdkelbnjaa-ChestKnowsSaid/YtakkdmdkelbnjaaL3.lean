/- The statement ChestKnows: for any chest, copies and fact the law returns true. Conditions: none. -/
import Derived.Test.YtakkdmdkelbnjaaK9
import Derived.Test.YtakkdmdkelbnjaaK10
namespace Go.Proofs.Ytakkdmdkelbnjaa.Abs
set_option linter.unusedSimpArgs false
set_option maxHeartbeats 4000000
set_option maxRecDepth 100000
open Go Go.RowKit Go.Proofs

theorem chestKnows_c (c : RChest) (l : List Int) (fact : Int) (hs : namesFit c) :
    PCall Try.prog 5 [chestA c, ints l, .int .i64 fact] (.bool true) := by
  intro m
  have h1 := knows_top c hs l
  have h2 := refknows_top c hs l
  have h3 := why_top c hs l fact
  have h4 := refwhy_top c hs l fact
  have i1 := intsT_c (knowsR c l).1
  have i2 := intsT_c (whyR c l fact).1
  generalize knowsR c l = k at *
  generalize whyR c l fact = q at *
  simp only [chestA, chestL, strs, ints] at *
  (refine acall_intro (E := env fun _ => .imm) (envOk _) rfl Try.func5 rfl Try.call5 (by kernel_rfl) (by simp [Try.ntmps5]) ?_; simp only [Try.f5];  simp (maxSteps := 4000000) only [↓VP0, ↓VP1, ↓VP2, VQ0, VQ1, VQ2, VQ3, VQ4, VT, ite_self, ite_split, Nat.reduceEqDiff, Nat.reduceAdd, Nat.reduceSub, Nat.reduceMul, Nat.reduceLeDiff, Nat.reduceLT, Nat.reduceBEq, Int.reduceLE, Int.reduceLT, Int.reduceNeg, Int.reduceAdd, Int.reduceSub, Int.reduceToNat, ↓reduceIte, reduceCtorEq])
  ((refine ACall.pure (h1) ?_; try simp (maxSteps := 4000000) only [↓VP0, ↓VP1, ↓VP2, VQ0, VQ1, VQ2, VQ3, VQ4, VT, ite_self, ite_split, Nat.reduceEqDiff, Nat.reduceAdd, Nat.reduceSub, Nat.reduceMul, Nat.reduceLeDiff, Nat.reduceLT, Nat.reduceBEq, Int.reduceLE, Int.reduceLT, Int.reduceNeg, Int.reduceAdd, Int.reduceSub, Int.reduceToNat, ↓reduceIte, reduceCtorEq]); try simp (maxSteps := 4000000) only [↓VP0, ↓VP1, ↓VP2, VQ0, VQ1, VQ2, VQ3, VQ4, VT, ite_self, ite_split, Nat.reduceEqDiff, Nat.reduceAdd, Nat.reduceSub, Nat.reduceMul, Nat.reduceLeDiff, Nat.reduceLT, Nat.reduceBEq, Int.reduceLE, Int.reduceLT, Int.reduceNeg, Int.reduceAdd, Int.reduceSub, Int.reduceToNat, ↓reduceIte, reduceCtorEq, eq_self, decide_true, decide_false, if_true, if_false, not_true_eq_false, List.append_eq])
  ((refine ACall.pure (h2) ?_; try simp (maxSteps := 4000000) only [↓VP0, ↓VP1, ↓VP2, VQ0, VQ1, VQ2, VQ3, VQ4, VT, ite_self, ite_split, Nat.reduceEqDiff, Nat.reduceAdd, Nat.reduceSub, Nat.reduceMul, Nat.reduceLeDiff, Nat.reduceLT, Nat.reduceBEq, Int.reduceLE, Int.reduceLT, Int.reduceNeg, Int.reduceAdd, Int.reduceSub, Int.reduceToNat, ↓reduceIte, reduceCtorEq]); try simp (maxSteps := 4000000) only [↓VP0, ↓VP1, ↓VP2, VQ0, VQ1, VQ2, VQ3, VQ4, VT, ite_self, ite_split, Nat.reduceEqDiff, Nat.reduceAdd, Nat.reduceSub, Nat.reduceMul, Nat.reduceLeDiff, Nat.reduceLT, Nat.reduceBEq, Int.reduceLE, Int.reduceLT, Int.reduceNeg, Int.reduceAdd, Int.reduceSub, Int.reduceToNat, ↓reduceIte, reduceCtorEq, eq_self, decide_true, decide_false, if_true, if_false, not_true_eq_false, List.append_eq])
  ((refine ACall.pure (i1) ?_; try simp (maxSteps := 4000000) only [↓VP0, ↓VP1, ↓VP2, VQ0, VQ1, VQ2, VQ3, VQ4, VT, ite_self, ite_split, Nat.reduceEqDiff, Nat.reduceAdd, Nat.reduceSub, Nat.reduceMul, Nat.reduceLeDiff, Nat.reduceLT, Nat.reduceBEq, Int.reduceLE, Int.reduceLT, Int.reduceNeg, Int.reduceAdd, Int.reduceSub, Int.reduceToNat, ↓reduceIte, reduceCtorEq]); try simp (maxSteps := 4000000) only [↓VP0, ↓VP1, ↓VP2, VQ0, VQ1, VQ2, VQ3, VQ4, VT, ite_self, ite_split, Nat.reduceEqDiff, Nat.reduceAdd, Nat.reduceSub, Nat.reduceMul, Nat.reduceLeDiff, Nat.reduceLT, Nat.reduceBEq, Int.reduceLE, Int.reduceLT, Int.reduceNeg, Int.reduceAdd, Int.reduceSub, Int.reduceToNat, ↓reduceIte, reduceCtorEq, eq_self, decide_true, decide_false, if_true, if_false, not_true_eq_false, List.append_eq])
  ((refine ACall.pure (h3) ?_; try simp (maxSteps := 4000000) only [↓VP0, ↓VP1, ↓VP2, VQ0, VQ1, VQ2, VQ3, VQ4, VT, ite_self, ite_split, Nat.reduceEqDiff, Nat.reduceAdd, Nat.reduceSub, Nat.reduceMul, Nat.reduceLeDiff, Nat.reduceLT, Nat.reduceBEq, Int.reduceLE, Int.reduceLT, Int.reduceNeg, Int.reduceAdd, Int.reduceSub, Int.reduceToNat, ↓reduceIte, reduceCtorEq]); try simp (maxSteps := 4000000) only [↓VP0, ↓VP1, ↓VP2, VQ0, VQ1, VQ2, VQ3, VQ4, VT, ite_self, ite_split, Nat.reduceEqDiff, Nat.reduceAdd, Nat.reduceSub, Nat.reduceMul, Nat.reduceLeDiff, Nat.reduceLT, Nat.reduceBEq, Int.reduceLE, Int.reduceLT, Int.reduceNeg, Int.reduceAdd, Int.reduceSub, Int.reduceToNat, ↓reduceIte, reduceCtorEq, eq_self, decide_true, decide_false, if_true, if_false, not_true_eq_false, List.append_eq])
  ((refine ACall.pure (h4) ?_; try simp (maxSteps := 4000000) only [↓VP0, ↓VP1, ↓VP2, VQ0, VQ1, VQ2, VQ3, VQ4, VT, ite_self, ite_split, Nat.reduceEqDiff, Nat.reduceAdd, Nat.reduceSub, Nat.reduceMul, Nat.reduceLeDiff, Nat.reduceLT, Nat.reduceBEq, Int.reduceLE, Int.reduceLT, Int.reduceNeg, Int.reduceAdd, Int.reduceSub, Int.reduceToNat, ↓reduceIte, reduceCtorEq]); try simp (maxSteps := 4000000) only [↓VP0, ↓VP1, ↓VP2, VQ0, VQ1, VQ2, VQ3, VQ4, VT, ite_self, ite_split, Nat.reduceEqDiff, Nat.reduceAdd, Nat.reduceSub, Nat.reduceMul, Nat.reduceLeDiff, Nat.reduceLT, Nat.reduceBEq, Int.reduceLE, Int.reduceLT, Int.reduceNeg, Int.reduceAdd, Int.reduceSub, Int.reduceToNat, ↓reduceIte, reduceCtorEq, eq_self, decide_true, decide_false, if_true, if_false, not_true_eq_false, List.append_eq])
  ((refine ACall.pure (i2) ?_; try simp (maxSteps := 4000000) only [↓VP0, ↓VP1, ↓VP2, VQ0, VQ1, VQ2, VQ3, VQ4, VT, ite_self, ite_split, Nat.reduceEqDiff, Nat.reduceAdd, Nat.reduceSub, Nat.reduceMul, Nat.reduceLeDiff, Nat.reduceLT, Nat.reduceBEq, Int.reduceLE, Int.reduceLT, Int.reduceNeg, Int.reduceAdd, Int.reduceSub, Int.reduceToNat, ↓reduceIte, reduceCtorEq]); try simp (maxSteps := 4000000) only [↓VP0, ↓VP1, ↓VP2, VQ0, VQ1, VQ2, VQ3, VQ4, VT, ite_self, ite_split, Nat.reduceEqDiff, Nat.reduceAdd, Nat.reduceSub, Nat.reduceMul, Nat.reduceLeDiff, Nat.reduceLT, Nat.reduceBEq, Int.reduceLE, Int.reduceLT, Int.reduceNeg, Int.reduceAdd, Int.reduceSub, Int.reduceToNat, ↓reduceIte, reduceCtorEq, eq_self, decide_true, decide_false, if_true, if_false, not_true_eq_false, List.append_eq])
  ((refine ACall.pure (awake_c) ?_; try simp (maxSteps := 4000000) only [↓VP0, ↓VP1, ↓VP2, VQ0, VQ1, VQ2, VQ3, VQ4, VT, ite_self, ite_split, Nat.reduceEqDiff, Nat.reduceAdd, Nat.reduceSub, Nat.reduceMul, Nat.reduceLeDiff, Nat.reduceLT, Nat.reduceBEq, Int.reduceLE, Int.reduceLT, Int.reduceNeg, Int.reduceAdd, Int.reduceSub, Int.reduceToNat, ↓reduceIte, reduceCtorEq]); try simp (maxSteps := 4000000) only [↓VP0, ↓VP1, ↓VP2, VQ0, VQ1, VQ2, VQ3, VQ4, VT, ite_self, ite_split, Nat.reduceEqDiff, Nat.reduceAdd, Nat.reduceSub, Nat.reduceMul, Nat.reduceLeDiff, Nat.reduceLT, Nat.reduceBEq, Int.reduceLE, Int.reduceLT, Int.reduceNeg, Int.reduceAdd, Int.reduceSub, Int.reduceToNat, ↓reduceIte, reduceCtorEq, eq_self, decide_true, decide_false, if_true, if_false, not_true_eq_false, List.append_eq])
end Go.Proofs.Ytakkdmdkelbnjaa.Abs

namespace Go.Proofs.Ytakkdmdkelbnjaa
set_option linter.unusedSimpArgs false
open Go Go.RowKit Go.Proofs Abs
set_option maxRecDepth 100000

theorem chestKnows_types : LawTypes Try.prog Try.f5 [26, 27, 3] 4 5 := by
  refine ⟨by rw [Try.params5], by kernel_rfl, Try.underlying4, laid_ok, fun t h => ?_⟩
  simp only [List.mem_cons, List.not_mem_nil, or_false] at h
  rcases h with rfl | rfl | rfl
  · exact plain26
  · exact plain27
  · exact plain3

theorem chestKnows_all (xs : List AV) (h : GoodAll Try.prog [26, 27, 3] xs) : ∃ K : AV → Mem → Prop, ACall Try.prog 5 xs (fun _ => .none) K ∧ ∀ r m, K r m → r = .bool true := by
  match xs, h with
  | [a0, a1, a2], ⟨⟨l0, g0, h0⟩, ⟨l1, g1, h1⟩, ⟨l2, g2, h2⟩, _⟩ =>
    obtain ⟨c, hc, e0⟩ := open_chest g0
    obtain ⟨l, e1, hnl, hl⟩ := open_ints27 g1
    obtain ⟨f, e2, hf⟩ := open_int3 g2
    rw [h0, e0, h1, e1, h2, e2]
    exact ⟨_, chestKnows_c c l f hc.names _, fun r m h => h.1⟩

theorem chestKnows_lifted (os : Os) (started : os.Started) (H : Type) (enc : TypeId × Value → H) :
    ReturnsInHanded {} Try.checked os 5 .any (Rows.chestKnowsSpec.pre6 enc Try.prog Try.f5 Rows.chestKnowsRow.domain false) (Rows.chestKnowsSpec.post enc Try.prog Try.f5 false true false false) := by
  refine returnsInHanded_of_change (C := Try.checked) own_ok started (by kernel_rfl) Try.func5
    (ChangeSpec.witness6 (enc := enc) (C := Try.checked) false ⟨#[], #[.agg #[.int .i64 0, .int .i64 0, .slice .none 0 0, .int .i64 0, .slice .none 0 0, .slice .none 0 0], .slice .none 0 0, .int .i64 0], []⟩ 8 (by kernel_rfl) (by kernel_rfl) (by kernel_rfl) (by kernel_rfl)) ?_
  intro W base args ds gs before hval hW _ _
  refine law_contract chestKnows_types rfl (fun ds hds => ?_) chestKnows_all W base args ds gs before hval hW
  match ds, hds with
  | [d0, d1, d2], _ => rfl

theorem chestKnows_holds : Rows.ChestKnowsSaid :=
  OpenClaim.holds_of_wide 5 Try.f5 rfl rfl rfl rfl rfl rfl rfl ⟨rfl, rfl, rfl, rfl, rfl⟩ rfl rfl rfl rfl rfl (by kernel_rfl) Try.func5 (by kernel_rfl)
    (of_decide_eq_true (by kernel_rfl)) (by unfold Func.isWrapper; first | (rw [if_pos (by decide +kernel)]; kernel_rfl) | (rw [if_neg (by decide +kernel)]; exact ⟨rfl, rfl⟩))
    (fun os started H enc _ => chestKnows_lifted os started H enc)
end Go.Proofs.Ytakkdmdkelbnjaa
