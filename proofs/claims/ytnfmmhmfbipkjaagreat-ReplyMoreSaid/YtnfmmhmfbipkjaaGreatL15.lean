/- The statement ReplyMore: for any book and answer the law returns true. Conditions: none. -/
import Derived.Test.YtnfmmhmfbipkjaaGreatW13
import Derived.Test.YtnfmmhmfbipkjaaGreatW14
namespace Go.Proofs.YtnfmmhmfbipkjaaGreat
set_option linter.unusedSimpArgs false
open Go Go.RowKit Go.Proofs Abs
set_option maxRecDepth 100000

theorem replyMore_types : LawTypes Tryz.prog Tryz.f10 [30, 81] 4 9 := by
 refine ⟨by rw [Tryz.params10], by kernel_rfl, Tryz.underlying4, laid_ok, fun t h => ?_⟩
 simp only [List.mem_cons, List.not_mem_nil, or_false] at h
 rcases h with rfl | rfl
 ·exact plain30
 ·exact plain81

theorem replyMore_all (xs : List AV) (h : GoodAll Tryz.prog [30, 81] xs) : ∃ K : AV → Mem → Prop, ACall Tryz.prog 10 xs (fun _ => .none) K ∧ ∀ r m, K r m → r = .bool true := by
 match xs, h with
 | [a0, a1], ⟨⟨l0, g0, h0⟩, ⟨l1, g1, h1⟩, _⟩ =>
  obtain ⟨b, hb, e0⟩ := open_book g0
  obtain ⟨x, _, e1⟩ := open_answer g1
  rw [h0, e0, h1, e1]
  exact ⟨_, replyMore_c b hb.names hb.answers x _, fun r m h => h.1⟩

theorem replyMore_lifted (os : Os) (started : os.Started) (H : Type) (enc : TypeId × Value → H) :
  ReturnsInHanded {} Tryz.checked os 10 .any (Rows.replyMoreSpec.pre6 enc Tryz.prog Tryz.f10 Rows.replyMoreRow.domain false) (Rows.replyMoreSpec.post enc Tryz.prog Tryz.f10 false true false false) := by
 refine returnsInHanded_of_change_sized (C := Tryz.checked) own_ok started (by kernel_rfl) Tryz.func10
  (ChangeSpec.witness6 (enc := enc) (C := Tryz.checked) false ⟨#[], #[.agg #[.int .i64 0, .int .i64 0, .slice .none 0 0, .slice .none 0 0, .slice .none 0 0, .slice .none 0 0, .int .i64 0, .slice .none 0 0], .agg #[.int .i64 0, .int .i64 0, .int .i64 0]], []⟩ 8 (by kernel_rfl) (by kernel_rfl) (by kernel_rfl) (by kernel_rfl)) ?_
 intro W base args ds gs before hval hW _ hz _
 refine law_contract replyMore_types rfl (fun ds hds => ?_) replyMore_all W base args ds gs before hval hW hz
 match ds, hds with
 | [d0, d1], _ => rfl

theorem replyMore_holds : Rows.ReplyMoreSaid :=
 OpenClaim.holds_of_wide 10 Tryz.f10 rfl rfl rfl rfl rfl rfl rfl ⟨rfl, rfl, rfl, rfl, rfl⟩ rfl rfl rfl rfl rfl (by kernel_rfl) Tryz.func10 (by kernel_rfl)
  (of_decide_eq_true (by kernel_rfl)) (by unfold Func.isWrapper; first | (rw [if_pos (by decide +kernel)]; kernel_rfl) | (rw [if_neg (by decide +kernel)]; exact ⟨rfl, rfl⟩))
  (fun os started H enc _ => replyMore_lifted os started H enc)
end Go.Proofs.YtnfmmhmfbipkjaaGreat
