/- The statement ShipWrongs: for any harbour, port and day the law returns true. Conditions: none. -/
import Derived.Test.YtnfmmhmfbipkjaaK12
namespace Go.Proofs.Ytnfmmhmfbipkjaa
set_option linter.unusedSimpArgs false
open Go Go.RowKit Go.Proofs Abs
set_option maxRecDepth 100000

theorem shipWrongs_types : LawTypes Try.prog Try.f5 [26, 27] 4 7 := by
  refine ⟨by rw [Try.params5], by kernel_rfl, Try.underlying4, laid_ok, fun t h => ?_⟩
  simp only [List.mem_cons, List.not_mem_nil, or_false] at h
  rcases h with rfl | rfl
  · exact plain26
  · exact plain27

theorem shipWrongs_all (xs : List AV) (h : GoodAll Try.prog [26, 27] xs) : ∃ K : AV → Mem → Prop, ACall Try.prog 5 xs (fun _ => .none) K ∧ ∀ r m, K r m → r = .bool true := by
  match xs, h with
  | [a0, a1], ⟨⟨l0, g0, h0⟩, ⟨l1, g1, h1⟩, _⟩ =>
    obtain ⟨h, hh, e0⟩ := open_harbour g0
    obtain ⟨p, q, e1⟩ := open_two g1
    rw [h0, e0, h1, e1]
    exact ⟨_, shipWrongs_c h hh p q _, fun r m h => h.1⟩

theorem shipWrongs_lifted (os : Os) (started : os.Started) (H : Type) (enc : TypeId × Value → H) :
    ReturnsInHanded {} Try.checked os 5 .any (Rows.shipWrongsSpec.pre6 enc Try.prog Try.f5 Rows.shipWrongsRow.domain false) (Rows.shipWrongsSpec.post enc Try.prog Try.f5 false true false false) := by
  refine returnsInHanded_of_change (C := Try.checked) own_ok started (by kernel_rfl) Try.func5
    (ChangeSpec.witness6 (enc := enc) (C := Try.checked) false ⟨#[], #[.agg #[.int .i64 0, .int .i64 0, .slice .none 0 0, .slice .none 0 0, .slice .none 0 0], .agg #[.int .i64 0, .int .i64 0]], []⟩ 8 (by kernel_rfl) (by kernel_rfl) (by kernel_rfl) (by kernel_rfl)) ?_
  intro W base args ds gs before hval hW _ _
  refine law_contract shipWrongs_types rfl (fun ds hds => ?_) shipWrongs_all W base args ds gs before hval hW
  match ds, hds with
  | [d0, d1], _ => rfl

theorem shipWrongs_holds : Rows.ShipWrongsSaid :=
  OpenClaim.holds_of_wide 5 Try.f5 rfl rfl rfl rfl rfl rfl rfl ⟨rfl, rfl, rfl, rfl, rfl⟩ rfl rfl rfl rfl rfl (by kernel_rfl) Try.func5 (by kernel_rfl)
    (of_decide_eq_true (by kernel_rfl)) (by unfold Func.isWrapper; first | (rw [if_pos (by decide +kernel)]; kernel_rfl) | (rw [if_neg (by decide +kernel)]; exact ⟨rfl, rfl⟩))
    (fun os started H enc _ => shipWrongs_lifted os started H enc)
end Go.Proofs.Ytnfmmhmfbipkjaa
