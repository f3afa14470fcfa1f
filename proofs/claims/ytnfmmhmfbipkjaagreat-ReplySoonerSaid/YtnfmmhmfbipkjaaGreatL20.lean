/- The statement ReplySooner: for any book,numbers and answer the law returns true. Conditions: none. -/
import Derived.Test.YtnfmmhmfbipkjaaGreatU15
import Derived.Test.YtnfmmhmfbipkjaaGreatU14
namespace Go.Proofs.YtnfmmhmfbipkjaaGreat
set_option linter.unusedSimpArgs false
open Go Go.RowKit Go.Proofs Abs
set_option maxRecDepth 100000

theorem replySooner_types : LawTypes Tryz.prog Tryz.f12 [30,78,5] 4 9 := by
 refine ⟨by rw [Tryz.params12],by kernel_rfl,Tryz.underlying4,laid_ok,fun t h => ?_⟩
 simp only [List.mem_cons,List.not_mem_nil,or_false] at h
 rcases h with rfl | rfl | rfl
 ·exact plain30
 ·exact plain78
 ·exact plain5

theorem replySooner_all (xs : List AV) (h : GoodAll Tryz.prog [30,78,5] xs) : ∃ K : AV → Mem → Prop,ACall Tryz.prog 12 xs (fun _ => .none) K ∧ ∀ r m,K r m → r = .bool true := by
 match xs,h with
 | [a0,a1,a2],⟨⟨l0,g0,h0⟩,⟨l1,g1,h1⟩,⟨l2,g2,h2⟩,_⟩ =>
  obtain ⟨b,hb,e0⟩ := open_book g0
  obtain ⟨x,y,hx,hy,e1⟩ := open_b2 g1
  obtain ⟨w,e2,hw⟩ := open_byte g2
  rw [h0,e0,h1,e1,h2,e2]
  exact ⟨_,replySooner_c b hb.names x y hx hy w hw _,fun r m h => h.1⟩

theorem replySooner_lifted (os : Os) (started : os.Started) (H : Type) (enc : TypeId × Value → H) :
  ReturnsInHanded {} Tryz.checked os 12 .any (Rows.replySoonerSpec.pre6 enc Tryz.prog Tryz.f12 Rows.replySoonerRow.domain false) (Rows.replySoonerSpec.post enc Tryz.prog Tryz.f12 false true false false) := by
 refine returnsInHanded_of_change_sized (C := Tryz.checked) own_ok started (by kernel_rfl) Tryz.func12
  (ChangeSpec.witness6 (enc := enc) (C := Tryz.checked) false ⟨#[],#[.agg #[.int .i64 0,.int .i64 0,.slice .none 0 0,.slice .none 0 0,.slice .none 0 0,.slice .none 0 0,.int .i64 0,.slice .none 0 0],.agg #[.int .u8 0,.int .u8 0],.int .u8 0],[]⟩ 8 (by kernel_rfl) (by kernel_rfl) (by kernel_rfl) (by kernel_rfl)) ?_
 intro W base args ds gs before hval hW _ hz _
 refine law_contract replySooner_types rfl (fun ds hds => ?_) replySooner_all W base args ds gs before hval hW hz
 match ds,hds with
 | [d0,d1,d2],_ => rfl

theorem replySooner_holds : Rows.ReplySoonerSaid :=
 OpenClaim.holds_of_wide 12 Tryz.f12 rfl rfl rfl rfl rfl rfl rfl ⟨rfl,rfl,rfl,rfl,rfl⟩ rfl rfl rfl rfl rfl (by kernel_rfl) Tryz.func12 (by kernel_rfl)
  (of_decide_eq_true (by kernel_rfl)) (by unfold Func.isWrapper; first | (rw [if_pos (by decide +kernel)]; kernel_rfl) | (rw [if_neg (by decide +kernel)]; exact ⟨rfl,rfl⟩))
  (fun os started H enc _ => replySooner_lifted os started H enc)
end Go.Proofs.YtnfmmhmfbipkjaaGreat
