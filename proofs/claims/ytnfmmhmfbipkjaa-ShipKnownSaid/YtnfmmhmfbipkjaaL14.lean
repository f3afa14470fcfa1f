/- The statement ShipKnown: the law of the examples returns true. Conditions: none. -/
import Derived.Test.YtnfmmhmfbipkjaaK11
import Derived.Test.YtnfmmhmfbipkjaaK12
namespace Go.Proofs.Ytnfmmhmfbipkjaa.Abs
set_option linter.unusedSimpArgs false
set_option maxHeartbeats 4000000
set_option maxRecDepth 100000
open Go Go.RowKit Go.Proofs

theorem y1 : callsR (exH 1 0) 1 1 = ((6, 7), 0, 0) := by kernel_rfl
theorem y2 : sunkR (exH 1 0) = ([], [0, 1], 0) := by kernel_rfl
theorem y3 : sunkR (exH 0 0) = ([], [], 0) := by kernel_rfl
theorem y4 : comeR (exH 1 0) 0 8 = (0, 0) := by kernel_rfl
theorem y5 : comeR (exH 0 0) 1 6 = (0, 0) := by kernel_rfl
theorem y6 : byR (exH 1 0) 0 = ([0, 1], 0) := by kernel_rfl
theorem y7 : byR (exH 1 0) 1 = ([1], 0) := by kernel_rfl
theorem y8 : beforeR (exH 1 0) 1 0 = (0, 0) := by kernel_rfl
theorem y9 : wrongR (exH 1 0) = ([], 0) := by kernel_rfl
theorem y10 : sendR (exH 0 0) 1 4 = (0, 0, 9) := by kernel_rfl
theorem y11 : sendR (exH 1 0) 0 0 = (0, 5, 0) := by kernel_rfl
theorem y12 : (comeR (exH 1 2) 0 60).2 = 0 := by kernel_rfl

theorem shipKnown_c : PCall Try.prog 6 [] (.bool true) := by
  intro m
  have a0 := harbour0_c 1
  have a2 := harbour2_c 1
  have a3 := harbour0_c 0
  have b1 := callsP_c (exH 1 0) (ex_names 1 0) 1 1 (by decide)
  have b2 := callsP_c (exH 1 0) (ex_names 1 0) 0 0 (by decide)
  have b3 := sunk_top (exH 1 0) (ex_names 1 0)
  have b4 := sunk_top (exH 0 0) (ex_names 0 0)
  have b5 := come_top (exH 1 0) (ex_names 1 0) 0 8
  have b6 := come_top (exH 0 0) (ex_names 0 0) 1 6
  have b7 := by_top (exH 1 0) (ex_names 1 0) 0
  have b8 := by_top (exH 1 0) (ex_names 1 0) 1
  have b9 := before_top (exH 1 0) (ex_names 1 0) 1 0
  have b10 := wrong_top (exH 1 0) (ex_names 1 0)
  have b11 := send_top (exH 0 0) (ex_names 0 0) 1 4
  have b12 := send_top (exH 1 0) (ex_names 1 0) 0 0
  have b13 := come_top (exH 1 2) (ex_names 1 2) 0 60
  have i1 := intsT_c [0, 1]
  have i2 := intsT_c [1]
  have s1 := span_c 6 7
  have s2 := span_c 5 5
  have e1 := eqFlat32 6 7 6 7
  have e2 := eqFlat32 5 5 5 5
  have aw := awake_c
  rw [y1] at b1; rw [x2] at b2; rw [y2] at b3; rw [y3] at b4; rw [y4] at b5; rw [y5] at b6; rw [y6] at b7; rw [y7] at b8; rw [y8] at b9; rw [y9] at b10; rw [y10] at b11; rw [y11] at b12; rw [y12] at b13
  simp only [harbA, harbL, exH, List.map_cons, List.map_nil, shipA, shipL, callA, letA, repA, if_true, if_false, Nat.reduceEqDiff, reduceCtorEq, ints] at *
  simp only [decide_true, Bool.and_true] at e1 e2
  (refine acall_intro (E := envC (modeAt [1, 2, 3, 4, 7] []) false []) (envCOk _ _ _) rfl Try.func6 rfl Try.call6 (by kernel_rfl) (by simp [Try.ntmps6]) ?_; simp only [Try.f6];  simp (maxSteps := 4000000) only [↓VP, VQ, ite_self, Nat.reduceEqDiff, Nat.reduceAdd, Nat.reduceSub, Nat.reduceMul, Nat.reduceLeDiff, Nat.reduceLT, Nat.reduceBEq, Int.reduceLE, Int.reduceLT, Int.reduceNeg, Int.reduceAdd, Int.reduceSub, Int.reduceToNat, ↓reduceIte, reduceCtorEq, ↓ixShip, ↓ixCall, ↓ixLet, ↓ixRep, Int.reduceEq])
  (refine ACall.pure (a0) ?_; try simp (maxSteps := 4000000) only [↓VP, VQ, ite_self, Nat.reduceEqDiff, Nat.reduceAdd, Nat.reduceSub, Nat.reduceMul, Nat.reduceLeDiff, Nat.reduceLT, Nat.reduceBEq, Int.reduceLE, Int.reduceLT, Int.reduceNeg, Int.reduceAdd, Int.reduceSub, Int.reduceToNat, ↓reduceIte, reduceCtorEq, ↓ixShip, ↓ixCall, ↓ixLet, ↓ixRep])
  (refine ACall.pure (a2) ?_; try simp (maxSteps := 4000000) only [↓VP, VQ, ite_self, Nat.reduceEqDiff, Nat.reduceAdd, Nat.reduceSub, Nat.reduceMul, Nat.reduceLeDiff, Nat.reduceLT, Nat.reduceBEq, Int.reduceLE, Int.reduceLT, Int.reduceNeg, Int.reduceAdd, Int.reduceSub, Int.reduceToNat, ↓reduceIte, reduceCtorEq, ↓ixShip, ↓ixCall, ↓ixLet, ↓ixRep])
  (refine ACall.pure (a3) ?_; try simp (maxSteps := 4000000) only [↓VP, VQ, ite_self, Nat.reduceEqDiff, Nat.reduceAdd, Nat.reduceSub, Nat.reduceMul, Nat.reduceLeDiff, Nat.reduceLT, Nat.reduceBEq, Int.reduceLE, Int.reduceLT, Int.reduceNeg, Int.reduceAdd, Int.reduceSub, Int.reduceToNat, ↓reduceIte, reduceCtorEq, ↓ixShip, ↓ixCall, ↓ixLet, ↓ixRep])
  (refine ACall.pure (b1) ?_; try simp (maxSteps := 4000000) only [↓VP, VQ, ite_self, Nat.reduceEqDiff, Nat.reduceAdd, Nat.reduceSub, Nat.reduceMul, Nat.reduceLeDiff, Nat.reduceLT, Nat.reduceBEq, Int.reduceLE, Int.reduceLT, Int.reduceNeg, Int.reduceAdd, Int.reduceSub, Int.reduceToNat, ↓reduceIte, reduceCtorEq, ↓ixShip, ↓ixCall, ↓ixLet, ↓ixRep])
  (refine ACall.pure (b2) ?_; try simp (maxSteps := 4000000) only [↓VP, VQ, ite_self, Nat.reduceEqDiff, Nat.reduceAdd, Nat.reduceSub, Nat.reduceMul, Nat.reduceLeDiff, Nat.reduceLT, Nat.reduceBEq, Int.reduceLE, Int.reduceLT, Int.reduceNeg, Int.reduceAdd, Int.reduceSub, Int.reduceToNat, ↓reduceIte, reduceCtorEq, ↓ixShip, ↓ixCall, ↓ixLet, ↓ixRep])
  (refine ACall.pure (b3) ?_; try simp (maxSteps := 4000000) only [↓VP, VQ, ite_self, Nat.reduceEqDiff, Nat.reduceAdd, Nat.reduceSub, Nat.reduceMul, Nat.reduceLeDiff, Nat.reduceLT, Nat.reduceBEq, Int.reduceLE, Int.reduceLT, Int.reduceNeg, Int.reduceAdd, Int.reduceSub, Int.reduceToNat, ↓reduceIte, reduceCtorEq, ↓ixShip, ↓ixCall, ↓ixLet, ↓ixRep])
  (refine ACall.pure (b4) ?_; try simp (maxSteps := 4000000) only [↓VP, VQ, ite_self, Nat.reduceEqDiff, Nat.reduceAdd, Nat.reduceSub, Nat.reduceMul, Nat.reduceLeDiff, Nat.reduceLT, Nat.reduceBEq, Int.reduceLE, Int.reduceLT, Int.reduceNeg, Int.reduceAdd, Int.reduceSub, Int.reduceToNat, ↓reduceIte, reduceCtorEq, ↓ixShip, ↓ixCall, ↓ixLet, ↓ixRep])
  (refine ACall.pure (b5) ?_; try simp (maxSteps := 4000000) only [↓VP, VQ, ite_self, Nat.reduceEqDiff, Nat.reduceAdd, Nat.reduceSub, Nat.reduceMul, Nat.reduceLeDiff, Nat.reduceLT, Nat.reduceBEq, Int.reduceLE, Int.reduceLT, Int.reduceNeg, Int.reduceAdd, Int.reduceSub, Int.reduceToNat, ↓reduceIte, reduceCtorEq, ↓ixShip, ↓ixCall, ↓ixLet, ↓ixRep])
  (refine ACall.pure (b6) ?_; try simp (maxSteps := 4000000) only [↓VP, VQ, ite_self, Nat.reduceEqDiff, Nat.reduceAdd, Nat.reduceSub, Nat.reduceMul, Nat.reduceLeDiff, Nat.reduceLT, Nat.reduceBEq, Int.reduceLE, Int.reduceLT, Int.reduceNeg, Int.reduceAdd, Int.reduceSub, Int.reduceToNat, ↓reduceIte, reduceCtorEq, ↓ixShip, ↓ixCall, ↓ixLet, ↓ixRep])
  (refine ACall.pure (b7) ?_; try simp (maxSteps := 4000000) only [↓VP, VQ, ite_self, Nat.reduceEqDiff, Nat.reduceAdd, Nat.reduceSub, Nat.reduceMul, Nat.reduceLeDiff, Nat.reduceLT, Nat.reduceBEq, Int.reduceLE, Int.reduceLT, Int.reduceNeg, Int.reduceAdd, Int.reduceSub, Int.reduceToNat, ↓reduceIte, reduceCtorEq, ↓ixShip, ↓ixCall, ↓ixLet, ↓ixRep])
  (refine ACall.pure (b8) ?_; try simp (maxSteps := 4000000) only [↓VP, VQ, ite_self, Nat.reduceEqDiff, Nat.reduceAdd, Nat.reduceSub, Nat.reduceMul, Nat.reduceLeDiff, Nat.reduceLT, Nat.reduceBEq, Int.reduceLE, Int.reduceLT, Int.reduceNeg, Int.reduceAdd, Int.reduceSub, Int.reduceToNat, ↓reduceIte, reduceCtorEq, ↓ixShip, ↓ixCall, ↓ixLet, ↓ixRep])
  (refine ACall.pure (b9) ?_; try simp (maxSteps := 4000000) only [↓VP, VQ, ite_self, Nat.reduceEqDiff, Nat.reduceAdd, Nat.reduceSub, Nat.reduceMul, Nat.reduceLeDiff, Nat.reduceLT, Nat.reduceBEq, Int.reduceLE, Int.reduceLT, Int.reduceNeg, Int.reduceAdd, Int.reduceSub, Int.reduceToNat, ↓reduceIte, reduceCtorEq, ↓ixShip, ↓ixCall, ↓ixLet, ↓ixRep])
  (refine ACall.pure (b10) ?_; try simp (maxSteps := 4000000) only [↓VP, VQ, ite_self, Nat.reduceEqDiff, Nat.reduceAdd, Nat.reduceSub, Nat.reduceMul, Nat.reduceLeDiff, Nat.reduceLT, Nat.reduceBEq, Int.reduceLE, Int.reduceLT, Int.reduceNeg, Int.reduceAdd, Int.reduceSub, Int.reduceToNat, ↓reduceIte, reduceCtorEq, ↓ixShip, ↓ixCall, ↓ixLet, ↓ixRep])
  (refine ACall.pure (b11) ?_; try simp (maxSteps := 4000000) only [↓VP, VQ, ite_self, Nat.reduceEqDiff, Nat.reduceAdd, Nat.reduceSub, Nat.reduceMul, Nat.reduceLeDiff, Nat.reduceLT, Nat.reduceBEq, Int.reduceLE, Int.reduceLT, Int.reduceNeg, Int.reduceAdd, Int.reduceSub, Int.reduceToNat, ↓reduceIte, reduceCtorEq, ↓ixShip, ↓ixCall, ↓ixLet, ↓ixRep])
  (refine ACall.pure (b12) ?_; try simp (maxSteps := 4000000) only [↓VP, VQ, ite_self, Nat.reduceEqDiff, Nat.reduceAdd, Nat.reduceSub, Nat.reduceMul, Nat.reduceLeDiff, Nat.reduceLT, Nat.reduceBEq, Int.reduceLE, Int.reduceLT, Int.reduceNeg, Int.reduceAdd, Int.reduceSub, Int.reduceToNat, ↓reduceIte, reduceCtorEq, ↓ixShip, ↓ixCall, ↓ixLet, ↓ixRep])
  ((refine ACall.pure (b13) ?_; try simp (maxSteps := 4000000) only [↓VP, VQ, ite_self, Nat.reduceEqDiff, Nat.reduceAdd, Nat.reduceSub, Nat.reduceMul, Nat.reduceLeDiff, Nat.reduceLT, Nat.reduceBEq, Int.reduceLE, Int.reduceLT, Int.reduceNeg, Int.reduceAdd, Int.reduceSub, Int.reduceToNat, ↓reduceIte, reduceCtorEq, ↓ixShip, ↓ixCall, ↓ixLet, ↓ixRep]); try simp (maxSteps := 4000000) only [↓VP, VQ, ite_self, Nat.reduceEqDiff, Nat.reduceAdd, Nat.reduceSub, Nat.reduceMul, Nat.reduceLeDiff, Nat.reduceLT, Nat.reduceBEq, Int.reduceLE, Int.reduceLT, Int.reduceNeg, Int.reduceAdd, Int.reduceSub, Int.reduceToNat, ↓reduceIte, reduceCtorEq, ↓ixShip, ↓ixCall, ↓ixLet, ↓ixRep, eq_self, decide_true, decide_false, if_true, if_false, not_true_eq_false, List.append_eq])
  (refine adrawQ (by first | exact envOk _ | exact envCOk _ _ _) mixed (by kernel_rfl) 123 ?_; simp only [List.replicate_succ, List.replicate_zero]; show vcOpsD _ _ _ (_ :: _) _ _)
  simp (maxSteps := 4000000) only [↓VP, VQ, ite_self, Nat.reduceEqDiff, Nat.reduceAdd, Nat.reduceSub, Nat.reduceMul, Nat.reduceLeDiff, Nat.reduceLT, Nat.reduceBEq, Int.reduceLE, Int.reduceLT, Int.reduceNeg, Int.reduceAdd, Int.reduceSub, Int.reduceToNat, ↓reduceIte, reduceCtorEq, ↓ixShip, ↓ixCall, ↓ixLet, ↓ixRep, Int.reduceEq, eq_self, decide_true, decide_false, if_true, if_false, not_true_eq_false, List.append_eq]
  refine VPure.of s1 ?_
  simp (maxSteps := 4000000) only [↓VP, VQ, ite_self, Nat.reduceEqDiff, Nat.reduceAdd, Nat.reduceSub, Nat.reduceMul, Nat.reduceLeDiff, Nat.reduceLT, Nat.reduceBEq, Int.reduceLE, Int.reduceLT, Int.reduceNeg, Int.reduceAdd, Int.reduceSub, Int.reduceToNat, ↓reduceIte, reduceCtorEq, ↓ixShip, ↓ixCall, ↓ixLet, ↓ixRep, Int.reduceEq, eq_self, decide_true, decide_false, if_true, if_false, not_true_eq_false, List.append_eq]
  refine ⟨e1, ?_⟩
  refine VPure.of s2 ?_
  simp (maxSteps := 4000000) only [↓VP, VQ, ite_self, Nat.reduceEqDiff, Nat.reduceAdd, Nat.reduceSub, Nat.reduceMul, Nat.reduceLeDiff, Nat.reduceLT, Nat.reduceBEq, Int.reduceLE, Int.reduceLT, Int.reduceNeg, Int.reduceAdd, Int.reduceSub, Int.reduceToNat, ↓reduceIte, reduceCtorEq, ↓ixShip, ↓ixCall, ↓ixLet, ↓ixRep, Int.reduceEq, eq_self, decide_true, decide_false, if_true, if_false, not_true_eq_false, List.append_eq]
  refine ⟨e2, ?_⟩
  refine VPure.of i1 ?_
  simp (maxSteps := 4000000) only [↓VP, VQ, ite_self, Nat.reduceEqDiff, Nat.reduceAdd, Nat.reduceSub, Nat.reduceMul, Nat.reduceLeDiff, Nat.reduceLT, Nat.reduceBEq, Int.reduceLE, Int.reduceLT, Int.reduceNeg, Int.reduceAdd, Int.reduceSub, Int.reduceToNat, ↓reduceIte, reduceCtorEq, ↓ixShip, ↓ixCall, ↓ixLet, ↓ixRep, Int.reduceEq, eq_self, decide_true, decide_false, if_true, if_false, not_true_eq_false, List.append_eq]
  refine VPure.of i1 ?_
  simp (maxSteps := 4000000) only [↓VP, VQ, ite_self, Nat.reduceEqDiff, Nat.reduceAdd, Nat.reduceSub, Nat.reduceMul, Nat.reduceLeDiff, Nat.reduceLT, Nat.reduceBEq, Int.reduceLE, Int.reduceLT, Int.reduceNeg, Int.reduceAdd, Int.reduceSub, Int.reduceToNat, ↓reduceIte, reduceCtorEq, ↓ixShip, ↓ixCall, ↓ixLet, ↓ixRep, Int.reduceEq, eq_self, decide_true, decide_false, if_true, if_false, not_true_eq_false, List.append_eq]
  refine VPure.of i2 ?_
  simp (maxSteps := 4000000) only [↓VP, VQ, ite_self, Nat.reduceEqDiff, Nat.reduceAdd, Nat.reduceSub, Nat.reduceMul, Nat.reduceLeDiff, Nat.reduceLT, Nat.reduceBEq, Int.reduceLE, Int.reduceLT, Int.reduceNeg, Int.reduceAdd, Int.reduceSub, Int.reduceToNat, ↓reduceIte, reduceCtorEq, ↓ixShip, ↓ixCall, ↓ixLet, ↓ixRep, Int.reduceEq, eq_self, decide_true, decide_false, if_true, if_false, not_true_eq_false, List.append_eq]
  refine VPure.of aw ?_
  simp (maxSteps := 4000000) only [↓VP, VQ, ite_self, Nat.reduceEqDiff, Nat.reduceAdd, Nat.reduceSub, Nat.reduceMul, Nat.reduceLeDiff, Nat.reduceLT, Nat.reduceBEq, Int.reduceLE, Int.reduceLT, Int.reduceNeg, Int.reduceAdd, Int.reduceSub, Int.reduceToNat, ↓reduceIte, reduceCtorEq, ↓ixShip, ↓ixCall, ↓ixLet, ↓ixRep, Int.reduceEq, eq_self, decide_true, decide_false, if_true, if_false, not_true_eq_false, List.append_eq]
end Go.Proofs.Ytnfmmhmfbipkjaa.Abs

namespace Go.Proofs.Ytnfmmhmfbipkjaa
set_option linter.unusedSimpArgs false
open Go Go.RowKit Go.Proofs Abs
set_option maxRecDepth 100000

theorem shipKnown_types : LawTypes Try.prog Try.f6 [] 4 7 := by
  refine ⟨by rw [Try.params6], by kernel_rfl, Try.underlying4, laid_ok, fun t h => ?_⟩
  simp only [List.mem_cons, List.not_mem_nil, or_false] at h

theorem shipKnown_all (xs : List AV) (h : GoodAll Try.prog [] xs) : ∃ K : AV → Mem → Prop, ACall Try.prog 6 xs (fun _ => .none) K ∧ ∀ r m, K r m → r = .bool true := by
  match xs, h with
  | [], _ =>
    exact ⟨_, shipKnown_c _, fun r m h => h.1⟩

theorem shipKnown_lifted (os : Os) (started : os.Started) (H : Type) (enc : TypeId × Value → H) :
    ReturnsInHanded {} Try.checked os 6 .any (Rows.shipKnownSpec.pre6 enc Try.prog Try.f6 Rows.shipKnownRow.domain false) (Rows.shipKnownSpec.post enc Try.prog Try.f6 false true false false) := by
  refine returnsInHanded_of_change (C := Try.checked) own_ok started (by kernel_rfl) Try.func6
    (ChangeSpec.witness6 (enc := enc) (C := Try.checked) false ⟨#[], #[], []⟩ 8 (by kernel_rfl) (by kernel_rfl) (by kernel_rfl) (by kernel_rfl)) ?_
  intro W base args ds gs before hval hW _ _
  refine law_contract shipKnown_types rfl (fun ds hds => ?_) shipKnown_all W base args ds gs before hval hW
  match ds, hds with
  | [], _ => rfl

theorem shipKnown_holds : Rows.ShipKnownSaid :=
  OpenClaim.holds_of_wide 6 Try.f6 rfl rfl rfl rfl rfl rfl rfl ⟨rfl, rfl, rfl, rfl, rfl⟩ rfl rfl rfl rfl rfl (by kernel_rfl) Try.func6 (by kernel_rfl)
    (of_decide_eq_true (by kernel_rfl)) (by unfold Func.isWrapper; first | (rw [if_pos (by decide +kernel)]; kernel_rfl) | (rw [if_neg (by decide +kernel)]; exact ⟨rfl, rfl⟩))
    (fun os started H enc _ => shipKnown_lifted os started H enc)
end Go.Proofs.Ytnfmmhmfbipkjaa
