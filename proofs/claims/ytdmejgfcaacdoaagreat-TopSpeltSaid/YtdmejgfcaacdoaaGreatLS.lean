/- The statement TopSpelt: for any book,names and other words the law returns true. Conditions: none. -/
import Derived.Test.YtdmejgfcaacdoaaGreatX44
import Derived.Test.YtdmejgfcaacdoaaGreatX32
import Derived.Test.YtdmejgfcaacdoaaGreatRows
namespace Go.Proofs.YtdmejgfcaacdoaaGreat.Abs
set_option linter.unusedSimpArgs false
open Go Go.RowKit Go.Proofs
set_option maxRecDepth 100000

theorem cells_byte : Tryz.prog.cellsOf 5 = 1 := by kernel_rfl
theorem cells_letr : Tryz.prog.cellsOf 159 = 3 := by kernel_rfl
theorem cells_alph : Tryz.prog.cellsOf 147 = 2 := by kernel_rfl
theorem cells_spel : Tryz.prog.cellsOf 76 = 2 := by kernel_rfl
theorem max_len : maxLen ≤ 9223372036854775807 := by unfold maxLen; decide

theorem wf_u8 {n : Int} (h : (Lit.int .u8 n).wf = true) : ∃ k : Nat,n = k ∧ k < 256 := by
 have := bounds_u8 h
 exact ⟨n.toNat,by omega,by omega⟩
theorem open_byte {l : List AV} (h : GoodT Tryz.prog 5 l) : ∃ n : Nat,n < 256 ∧ packT Tryz.prog 5 l = .int .u8 n ∧ l = [.int .u8 n] := by
 obtain ⟨n,h1,h2,h3⟩ := h.int_inv Tryz.underlying5
 obtain ⟨k,rfl,hk⟩ := wf_u8 h3
 exact ⟨k,hk,h2,h1⟩
/-- Bytes. -/
theorem open_bytes {l : List AV} (h : GoodT Tryz.prog 59 l) : ∃ x : List Nat,(∀ n ∈ x,n < 256) ∧ l = [.slice 1 (bytes8 x)] := by
 obtain ⟨xs,h1,_,_,h4,_⟩ := h.slice_inv Tryz.underlying59 (fun n : Nat => AV.int .u8 n) (fun n => n < 256) (fun l hl => by
  obtain ⟨n,q1,q2,_⟩ := open_byte hl
  exact ⟨n,q1,q2⟩)
 rw [cells_byte] at h1
 exact ⟨xs,h4,h1⟩
/-- Two bytes. -/
theorem open_two {l : List AV} (h : GoodT Tryz.prog 60 l) : ∃ a b : Nat,a < 256 ∧ b < 256 ∧ l = [.int .u8 a,.int .u8 b] := by
 obtain ⟨xs,h1,_,h3,h4⟩ := h.array_inv Tryz.underlying60 (fun n : Nat => [.int .u8 n]) (fun n => n < 256) fun l hl => by
  obtain ⟨n,q1,_,q3⟩ := open_byte hl
  exact ⟨n,q1,q3⟩
 match xs,h3,h4,h1 with
 | [a,b],_,h4,h1 => exact ⟨a,b,h4 a (by simp),h4 b (by simp),h1⟩
theorem open_letr {l : List AV} (h : GoodT Tryz.prog 159 l) : ∃ x : RLetr,x.c < 256 ∧ packT Tryz.prog 159 l = letrA x := by
 obtain ⟨ls,hl,hp,hf⟩ := h.struct_inv Tryz.underlying159
 obtain ⟨c,hc,_,hc1⟩ := open_byte (hf 0 _ rfl)
 obtain ⟨n,hn,_⟩ := (hf 1 _ rfl).int_inv Tryz.underlying3
 obtain ⟨s,hs,_⟩ := (hf 2 _ rfl).bool_inv Tryz.underlying4
 refine ⟨⟨c,n,s⟩,hc,?_⟩
 rw [hp,hl]
 show AV.agg ((List.range 3).flatMap ls) = _
 rw [range3]
 simp only [List.flatMap_cons,List.flatMap_nil,hc1,hn,hs]
 rfl
theorem open_alph {l : List AV} (h : GoodT Tryz.prog 147 l) : ∃ x : RAlph,(x.name.size ≤ 9223372036854775807 ∧ letrsFit x.letters) ∧ packT Tryz.prog 147 l = alphA x := by
 obtain ⟨ls,hl,hp,hf⟩ := h.struct_inv Tryz.underlying147
 obtain ⟨s,hs,_,hs3⟩ := (hf 0 _ rfl).str_inv Tryz.underlying9
 obtain ⟨ps,hps,_,_,hp4,_⟩ := (hf 1 _ rfl).slice_inv Tryz.underlying145 letrA (fun x => x.c < 256) (fun l hl => open_letr hl)
 rw [cells_letr] at hps
 refine ⟨⟨s,ps⟩,⟨Nat.le_trans hs3 max_len,hp4⟩,?_⟩
 rw [hp,hl]
 show AV.agg ((List.range 2).flatMap ls) = _
 rw [range2]
 simp only [List.flatMap_cons,List.flatMap_nil,hs,hps]
 rfl
theorem open_spel {l : List AV} (h : GoodT Tryz.prog 76 l) : ∃ x : RSpel,x.text.size ≤ 9223372036854775807 ∧ packT Tryz.prog 76 l = spelA x := by
 obtain ⟨ls,hl,hp,hf⟩ := h.struct_inv Tryz.underlying76
 obtain ⟨n,hn,_⟩ := (hf 0 _ rfl).int_inv Tryz.underlying3
 obtain ⟨s,hs,_,hs3⟩ := (hf 1 _ rfl).str_inv Tryz.underlying9
 refine ⟨⟨n,s⟩,Nat.le_trans hs3 max_len,?_⟩
 rw [hp,hl]
 show AV.agg ((List.range 2).flatMap ls) = _
 rw [range2]
 simp only [List.flatMap_cons,List.flatMap_nil,hn,hs]
 rfl
/-- A book. -/
theorem open_ear {l : List AV} (h : GoodT Tryz.prog 58 l) : ∃ b : REar,earFit b ∧ packT Tryz.prog 58 l = earA b := by
 obtain ⟨ls,hl,hp,hf⟩ := h.struct_inv Tryz.underlying58
 obtain ⟨k,hk,_⟩ := (hf 0 _ rfl).int_inv Tryz.underlying3
 obtain ⟨alz,has,_,_,ha4,_⟩ := (hf 1 _ rfl).slice_inv Tryz.underlying55 alphA (fun x => x.name.size ≤ 9223372036854775807 ∧ letrsFit x.letters) (fun l hl => open_alph hl)
 obtain ⟨ss,hss,_,_,hs4,_⟩ := (hf 2 _ rfl).slice_inv Tryz.underlying56 spelA (fun x => x.text.size ≤ 9223372036854775807) (fun l hl => open_spel hl)
 rw [cells_alph] at has
 rw [cells_spel] at hss
 refine ⟨⟨k,alz,ss⟩,⟨ha4,hs4⟩,?_⟩
 rw [hp,hl]
 show AV.agg ((List.range 3).flatMap ls) = _
 rw [range3]
 simp only [List.flatMap_cons,List.flatMap_nil,hk,has,hss]
 rfl
/-- Two names as they were heard. -/
structure HJ (x y w : List Nat) (a0 a1 : Nat) : Prop where
 x : ∀ n ∈ x,n < 256
 y : ∀ n ∈ y,n < 256
 w : ∀ n ∈ w,n < 256
 a : a0 < 256 ∧ a1 < 256
theorem open_heard {l : List AV} (h : GoodT Tryz.prog 62 l) : ∃ (x y w : List Nat) (a0 a1 : Nat),HJ x y w a0 a1 ∧ packT Tryz.prog 62 l = hearX x y a0 a1 w := by
 obtain ⟨ls,hl,hp,hf⟩ := h.struct_inv Tryz.underlying62
 obtain ⟨x,hx,ex⟩ := open_bytes (hf 0 _ rfl)
 obtain ⟨y,hy,ey⟩ := open_bytes (hf 1 _ rfl)
 obtain ⟨a,b,ha,hb,eab⟩ := open_two (hf 2 _ rfl)
 obtain ⟨w,hw,ew⟩ := open_bytes (hf 3 _ rfl)
 refine ⟨x,y,w,a,b,⟨hx,hy,hw,ha,hb⟩,?_⟩
 rw [hp,hl]
 show AV.agg ((List.range 4).flatMap ls) = _
 rw [range4]
 simp only [List.flatMap_cons,List.flatMap_nil,ex,ey,eab,ew]
 rfl

theorem laid_ok : laidOutB Tryz.prog = true := by kernel_rfl
theorem own_ok : ownKnob Tryz.prog.godebug = none := by kernel_rfl

theorem plain58 : (Tryz.prog.readableRec 58 = true ∧ 58 < Tryz.prog.types.size) ∧ plainT Tryz.prog 9 58 = true := ⟨⟨by kernel_rfl,of_decide_eq_true (by kernel_rfl)⟩,by kernel_rfl⟩
theorem plain62 : (Tryz.prog.readableRec 62 = true ∧ 62 < Tryz.prog.types.size) ∧ plainT Tryz.prog 9 62 = true := ⟨⟨by kernel_rfl,of_decide_eq_true (by kernel_rfl)⟩,by kernel_rfl⟩
end Go.Proofs.YtdmejgfcaacdoaaGreat.Abs

namespace Go.Proofs.YtdmejgfcaacdoaaGreat
set_option linter.unusedSimpArgs false
open Go Go.RowKit Go.Proofs Abs
set_option maxRecDepth 100000

theorem topSpelt_types : LawTypes Tryz.prog Tryz.f4 [58,62] 4 9 := by
 refine ⟨by rw [Tryz.params4],by kernel_rfl,Tryz.underlying4,laid_ok,fun t h => ?_⟩
 simp only [List.mem_cons,List.not_mem_nil,or_false] at h
 rcases h with rfl | rfl
 ·exact plain58
 ·exact plain62

theorem topSpelt_all (xs : List AV) (h : GoodAll Tryz.prog [58,62] xs) : ∃ K : AV → Mem → Prop,ACall Tryz.prog 4 xs (fun _ => .none) K ∧ ∀ r m,K r m → r = .bool true := by
 match xs,h with
 | [a0,a1],⟨⟨l0,g0,h0⟩,⟨l1,g1,h1⟩,_⟩ =>
  obtain ⟨b,hb,e0⟩ := open_ear g0
  obtain ⟨x,y,w,a0,a1,hh,e1⟩ := open_heard g1
  rw [h0,e0,h1,e1]
  exact ⟨_,topSpelt_c b hb x y w a0 a1 hh.x hh.y hh.w hh.a.1 hh.a.2 _,fun r m h => h⟩

theorem topSpelt_lifted (os : Os) (started : os.Started) (H : Type) (enc : TypeId × Value → H) :
  ReturnsInHanded {} Tryz.checked os 4 .any (Rows.topSpeltSpec.pre6 enc Tryz.prog Tryz.f4 Rows.topSpeltRow.domain false) (Rows.topSpeltSpec.post enc Tryz.prog Tryz.f4 false true false false) := by
 refine returnsInHanded_of_change_sized (C := Tryz.checked) own_ok started (by kernel_rfl) Tryz.func4
  (ChangeSpec.witness6 (enc := enc) (C := Tryz.checked) false ⟨#[],#[.agg #[.int .i64 0,.slice .none 0 0,.slice .none 0 0],.agg #[.slice .none 0 0,.slice .none 0 0,.int .u8 0,.int .u8 0,.slice .none 0 0]],[]⟩ 8 (by kernel_rfl) (by kernel_rfl) (by kernel_rfl) (by kernel_rfl)) ?_
 intro W base args ds gs before hval hW _ hz _
 refine law_contract topSpelt_types rfl (fun ds hds => ?_) topSpelt_all W base args ds gs before hval hW hz
 match ds,hds with
 | [d0,d1],_ => rfl

theorem topSpelt_holds : Rows.TopSpeltSaid :=
 OpenClaim.holds_of_wide 4 Tryz.f4 rfl rfl rfl rfl rfl rfl rfl ⟨rfl,rfl,rfl,rfl,rfl⟩ rfl rfl rfl rfl rfl (by kernel_rfl) Tryz.func4 (by kernel_rfl)
  (of_decide_eq_true (by kernel_rfl)) (by unfold Func.isWrapper; first | (rw [if_pos (by decide +kernel)]; kernel_rfl) | (rw [if_neg (by decide +kernel)]; exact ⟨rfl,rfl⟩))
  (fun os started H enc _ => topSpelt_lifted os started H enc)
end Go.Proofs.YtdmejgfcaacdoaaGreat
