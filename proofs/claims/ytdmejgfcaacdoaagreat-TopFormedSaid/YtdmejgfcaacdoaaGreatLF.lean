/- The statement TopFormed: for any shelf,number and letters the law returns true. Conditions: none. -/
import Derived.Test.YtdmejgfcaacdoaaGreatW38
import Derived.Test.YtdmejgfcaacdoaaGreatW37
import Derived.Test.YtdmejgfcaacdoaaGreatRows
namespace Go.Proofs.YtdmejgfcaacdoaaGreat.Abs
set_option linter.unusedSimpArgs false
open Go Go.RowKit Go.Proofs
set_option maxRecDepth 100000

theorem cells_str : Tryz.prog.cellsOf 9 = 1 := by kernel_rfl
theorem cells_part : Tryz.prog.cellsOf 86 = 3 := by kernel_rfl
theorem cells_form : Tryz.prog.cellsOf 34 = 2 := by kernel_rfl
theorem cells_row : Tryz.prog.cellsOf 30 = 1 := by kernel_rfl

theorem open_str {l : List AV} (h : GoodT Tryz.prog 9 l) : ∃ s : ByteArray,s.size ≤ maxLen ∧ packT Tryz.prog 9 l = .str s := by
 obtain ⟨s,_,h2,h3⟩ := h.str_inv Tryz.underlying9
 exact ⟨s,h3,h2⟩
/-- A list of words. -/
theorem open_strs {l : List AV} (h : GoodT Tryz.prog 30 l) : ∃ x : List ByteArray,sizesFit x ∧ l = [strs x] ∧ packT Tryz.prog 30 l = strs x := by
 obtain ⟨xs,h1,h2,_,h4,_⟩ := h.slice_inv Tryz.underlying30 AV.str (fun s => s.size ≤ maxLen) (fun l hl => open_str hl)
 rw [cells_str] at h1 h2
 have hm : maxLen ≤ 9223372036854775807 := by unfold maxLen; decide
 exact ⟨xs,fun s hs => Nat.le_trans (h4 s hs) hm,h1,h2⟩
theorem open_rows {l : List AV} (h : GoodT Tryz.prog 25 l) : ∃ x : List (List ByteArray),rowsFit x ∧ packT Tryz.prog 25 l = rowsW x := by
 obtain ⟨xs,h1,h2,_,h4,_⟩ := h.slice_inv Tryz.underlying25 strs sizesFit (fun l hl => by
  obtain ⟨x,q1,_,q3⟩ := open_strs hl
  exact ⟨x,q1,q3⟩)
 rw [cells_row] at h2
 exact ⟨xs,h4,h2⟩
theorem open_part {l : List AV} (h : GoodT Tryz.prog 86 l) : ∃ x : RPart,sizesFit x.words ∧ packT Tryz.prog 86 l = partA x := by
 obtain ⟨ls,hl,hp,hf⟩ := h.struct_inv Tryz.underlying86
 obtain ⟨ws,hs,hw,_⟩ := open_strs (hf 0 _ rfl)
 obtain ⟨ms,hml,_,hmf⟩ := (hf 1 _ rfl).struct_inv Tryz.underlying84
 obtain ⟨b,hb,_⟩ := (hmf 0 _ rfl).int_inv Tryz.underlying3
 obtain ⟨c,hc,_⟩ := (hmf 1 _ rfl).int_inv Tryz.underlying3
 refine ⟨⟨ws,b,c⟩,hs,?_⟩
 rw [hp,hl]
 show AV.agg ((List.range 2).flatMap ls) = _
 rw [range2]
 simp only [List.flatMap_cons,List.flatMap_nil,hw,hml]
 show AV.agg (_ ++ ((List.range 2).flatMap ms ++ [])) = _
 rw [range2]
 simp only [List.flatMap_cons,List.flatMap_nil,hb,hc]
 rfl
theorem open_form {l : List AV} (h : GoodT Tryz.prog 34 l) : ∃ x : RForm,formFit x ∧ packT Tryz.prog 34 l = formA x := by
 obtain ⟨ls,hl,hp,hf⟩ := h.struct_inv Tryz.underlying34
 obtain ⟨s,hs,_,hs3⟩ := (hf 0 _ rfl).str_inv Tryz.underlying9
 obtain ⟨ps,hps,_,_,hp4,_⟩ := (hf 1 _ rfl).slice_inv Tryz.underlying32 partA (fun x => sizesFit x.words) (fun l hl => open_part hl)
 rw [cells_part] at hps
 have hm : maxLen ≤ 9223372036854775807 := by unfold maxLen; decide
 refine ⟨⟨s,ps⟩,⟨Nat.le_trans hs3 hm,hp4⟩,?_⟩
 rw [hp,hl]
 show AV.agg ((List.range 2).flatMap ls) = _
 rw [range2]
 simp only [List.flatMap_cons,List.flatMap_nil,hs,hps]
 rfl
/-- A shelf. -/
theorem open_shelf {l : List AV} (h : GoodT Tryz.prog 24 l) : ∃ x : RShelf,shelfFit x ∧ packT Tryz.prog 24 l = shelfA x := by
 obtain ⟨ls,hl,hp,hf⟩ := h.struct_inv Tryz.underlying24
 obtain ⟨a,ha,_⟩ := (hf 0 _ rfl).int_inv Tryz.underlying3
 obtain ⟨fs,hfs,_,_,hf4,_⟩ := (hf 1 _ rfl).slice_inv Tryz.underlying22 formA formFit (fun l hl => open_form hl)
 rw [cells_form] at hfs
 refine ⟨⟨a,fs⟩,hf4,?_⟩
 rw [hp,hl]
 show AV.agg ((List.range 2).flatMap ls) = _
 rw [range2]
 simp only [List.flatMap_cons,List.flatMap_nil,ha,hfs]
 rfl
/-- A byte. -/
theorem wf_u8 {n : Int} (h : (Lit.int .u8 n).wf = true) : ∃ k : Nat,n = k ∧ k < 256 := by
 have := bounds_u8 h
 exact ⟨n.toNat,by omega,by omega⟩
theorem open_byte {l : List AV} (h : GoodT Tryz.prog 5 l) : ∃ n : Nat,n < 256 ∧ packT Tryz.prog 5 l = .int .u8 n := by
 obtain ⟨n,_,h2,h3⟩ := h.int_inv Tryz.underlying5
 obtain ⟨k,rfl,hk⟩ := wf_u8 h3
 exact ⟨k,hk,h2⟩

theorem laid_ok : laidOutB Tryz.prog = true := by kernel_rfl
theorem own_ok : ownKnob Tryz.prog.godebug = none := by kernel_rfl

theorem plain24 : (Tryz.prog.readableRec 24 = true ∧ 24 < Tryz.prog.types.size) ∧ plainT Tryz.prog 9 24 = true := ⟨⟨by kernel_rfl,of_decide_eq_true (by kernel_rfl)⟩,by kernel_rfl⟩
theorem plain5 : (Tryz.prog.readableRec 5 = true ∧ 5 < Tryz.prog.types.size) ∧ plainT Tryz.prog 9 5 = true := ⟨⟨by kernel_rfl,of_decide_eq_true (by kernel_rfl)⟩,by kernel_rfl⟩
theorem plain25 : (Tryz.prog.readableRec 25 = true ∧ 25 < Tryz.prog.types.size) ∧ plainT Tryz.prog 9 25 = true := ⟨⟨by kernel_rfl,of_decide_eq_true (by kernel_rfl)⟩,by kernel_rfl⟩
end Go.Proofs.YtdmejgfcaacdoaaGreat.Abs

namespace Go.Proofs.YtdmejgfcaacdoaaGreat
set_option linter.unusedSimpArgs false
open Go Go.RowKit Go.Proofs Abs
set_option maxRecDepth 100000

theorem topFormed_types : LawTypes Tryz.prog Tryz.f3 [24,5,25] 4 9 := by
 refine ⟨by rw [Tryz.params3],by kernel_rfl,Tryz.underlying4,laid_ok,fun t h => ?_⟩
 simp only [List.mem_cons,List.not_mem_nil,or_false] at h
 rcases h with rfl | rfl | rfl
 ·exact plain24
 ·exact plain5
 ·exact plain25

theorem topFormed_all (xs : List AV) (h : GoodAll Tryz.prog [24,5,25] xs) : ∃ K : AV → Mem → Prop,ACall Tryz.prog 3 xs (fun _ => .none) K ∧ ∀ r m,K r m → r = .bool true := by
 match xs,h with
 | [a0,a1,a2],⟨⟨l0,g0,h0⟩,⟨l1,g1,h1⟩,⟨l2,g2,h2⟩,_⟩ =>
  obtain ⟨b,hb,e0⟩ := open_shelf g0
  obtain ⟨g,hg,e1⟩ := open_byte g1
  obtain ⟨x,hx,e2⟩ := open_rows g2
  rw [h0,e0,h1,e1,h2,e2]
  exact ⟨_,topFormed_c b hb g hg x hx _,fun r m h => h⟩

theorem topFormed_lifted (os : Os) (started : os.Started) (H : Type) (enc : TypeId × Value → H) :
  ReturnsInHanded {} Tryz.checked os 3 .any (Rows.topFormedSpec.pre6 enc Tryz.prog Tryz.f3 Rows.topFormedRow.domain false) (Rows.topFormedSpec.post enc Tryz.prog Tryz.f3 false true false false) := by
 refine returnsInHanded_of_change_sized (C := Tryz.checked) own_ok started (by kernel_rfl) Tryz.func3
  (ChangeSpec.witness6 (enc := enc) (C := Tryz.checked) false ⟨#[],#[.agg #[.int .i64 0,.slice .none 0 0],.int .u8 0,.slice .none 0 0],[]⟩ 8 (by kernel_rfl) (by kernel_rfl) (by kernel_rfl) (by kernel_rfl)) ?_
 intro W base args ds gs before hval hW _ hz _
 refine law_contract topFormed_types rfl (fun ds hds => ?_) topFormed_all W base args ds gs before hval hW hz
 match ds,hds with
 | [d0,d1,d2],_ => rfl

theorem topFormed_holds : Rows.TopFormedSaid :=
 OpenClaim.holds_of_wide 3 Tryz.f3 rfl rfl rfl rfl rfl rfl rfl ⟨rfl,rfl,rfl,rfl,rfl⟩ rfl rfl rfl rfl rfl (by kernel_rfl) Tryz.func3 (by kernel_rfl)
  (of_decide_eq_true (by kernel_rfl)) (by unfold Func.isWrapper; first | (rw [if_pos (by decide +kernel)]; kernel_rfl) | (rw [if_neg (by decide +kernel)]; exact ⟨rfl,rfl⟩))
  (fun os started H enc _ => topFormed_lifted os started H enc)
end Go.Proofs.YtdmejgfcaacdoaaGreat
