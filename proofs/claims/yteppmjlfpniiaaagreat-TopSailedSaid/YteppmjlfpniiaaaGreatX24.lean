/- Lemmas for the statements of this seat (X24): they hold without conditions beyond those that each one states. -/
import Derived.Test.YteppmjlfpniiaaaGreatX22
import Derived.Test.YteppmjlfpniiaaaGreatX18
import Derived.Test.YteppmjlfpniiaaaGreatX19
/- Contracts: Best. -/
namespace Go.Proofs.YteppmjlfpniiaaaGreat.Abs
set_option linter.unusedSimpArgs false
set_option maxHeartbeats 4000000
set_option maxRecDepth 100000
open Go Go.RowKit Go.Proofs
/-! ### Types,with nil slices of numbers held as such -/
noncomputable def tyN (t : TypeId) : Option TyI := if t = 37 then some ⟨.slice 3,1,24,[.mslice 0 0 0 0]⟩ else ty t
noncomputable def envN (H : Nat → Mode) (rd : Bool) (cut : List Nat) : Env := ⟨Tryz.prog,tyN,H,rd,cut⟩
theorem envNOk (H : Nat → Mode) (rd : Bool) (cut : List Nat) : EnvOk (envN H rd cut) := by
  intro t i h
  have h : tyN t = some i := h
  unfold tyN at h
  split at h
  · rename_i e
    subst e
    cases h
    exact tyOk_sliceN (by kernel_rfl : Tryz.prog.info? 37 = some Tryz.t37) rfl rfl Tryz.underlying37 rfl
  · exact envCOk H rd cut t i h
theorem envN_T (H : Nat → Mode) (r : Bool) (c : List Nat) : (envN H r c).T = tyN := rfl
theorem envN_P (H : Nat → Mode) (r : Bool) (c : List Nat) : (envN H r c).P = Tryz.prog := rfl
theorem envN_H (H : Nat → Mode) (r : Bool) (c : List Nat) : (envN H r c).H = H := rfl
theorem envN_cut (H : Nat → Mode) (r : Bool) (c : List Nat) : (envN H r c).cut = c := rfl
theorem tyN_at (t : TypeId) : tyN t = if t = 37 then some ⟨.slice 3,1,24,[.mslice 0 0 0 0]⟩ else ty t := rfl
theorem EN : type_of% (And.intro envN_T (And.intro envN_P (And.intro envN_H (And.intro envN_cut tyN_at)))) := And.intro envN_T (And.intro envN_P (And.intro envN_H (And.intro envN_cut tyN_at)))
theorem best_c (h : RHall) (hs : dnamesFit h) : PCall Tryz.prog 9 [hallA h] (.tuple [rowsA (bestD h).1,.int .i64 (bestD h).2.1,.int .i64 (bestD h).2.2]) := by
  intro m
  refine ACall.settle ?_
  have h1 := dcheck_c h hs
  have eB : bestD h = if (checkD h).2.2 ≠ 0 then ([],0,(checkD h).2.2)
    else if overD h (2 ^ h.wri.length - 1) (2 ^ h.cus.length - 1) (begS h) < 0 then ([],0,9)
    else (planF h.wri.length (findF h (2 ^ h.wri.length - 1) (2 ^ h.cus.length - 1) (overD h (2 ^ h.wri.length - 1) (2 ^ h.cus.length - 1) (begS h)) (leftD h (begS h) + 1) (begS h)),overD h (2 ^ h.wri.length - 1) (2 ^ h.cus.length - 1) (begS h),0) := rfl
  generalize bestD h = B at *
  simp only [hallA,hallL,rowsA] at h1 ⊢
  (refine acall_intro (E := envN (modeAt [8] [3,5,6,7,37]) false [20]) (envNOk _ _ _) rfl Tryz.func9 rfl Tryz.call9 (by kernel_rfl) (by simp [Tryz.ntmps9]) ?_; simp only [Tryz.f9]; simp(maxSteps:=9^9)only[↓VX,VQ,seval,EN])
  intro b3 hb3
  (refine ACall.pure (h1) ?_; try simp(maxSteps:=9^9)only[↓VX,VQ,seval,GL,EN])
  repeat'(first|intro _|apply And.intro)
  · have q : ¬ (checkD h).2.2 = 0 := by assumption
    rw [if_pos q] at eB
    subst eB
    refine ⟨_,m,fun k z e => ?_,⟨rfl,rfl⟩,fun G w v hm hr => hr.mono (frozen_le hm) fun _ _ _ => rfl⟩
    have e1 : k ≠ b3 := by rintro rfl; rw [hb3] at e; cases e
    rw [if_neg e1,if_neg e1]; exact e
  have hc : (checkD h).2.2 = 0 := Decidable.of_not_not (by assumption)
  rw [if_neg (by omega)] at eB
  have hd := dok_check hc
  have hlk := dlook_c h hd.n hd.m (upd m b3 (some (.cells [.int .i64 0])))
  have pw1 : 2 ^ h.wri.length ≤ 8 := Nat.pow_le_pow_right (n := 2) (by decide) hd.n
  have pw2 : 2 ^ h.cus.length ≤ 32 := Nat.pow_le_pow_right (n := 2) (by decide) hd.m
  have pw3 : 0 < 2 ^ h.wri.length := Nat.pow_pos (by decide)
  have pw4 : 0 < 2 ^ h.cus.length := Nat.pow_pos (by decide)
  simp only [hallA,hallL] at hlk
  refine ACall.told hlk ?_
  rintro r m1 ⟨hb,km,rfl,g1,g2,g3,rfl⟩
  have f3 : upd m b3 (some (.cells [.int .i64 0])) b3 = some (.cells [.int .i64 0]) := upd_same _ _ _
  have k3h : hb ≠ b3 := by rintro rfl; rw [f3] at g1; cases g1
  have k3k : km ≠ b3 := by rintro rfl; rw [f3] at g2; cases g2
  generalize hws : 2 ^ h.wri.length - 1 = ws at *
  generalize hcs : 2 ^ h.cus.length - 1 = cs at *
  have hm := upd_same (upd (upd m b3 (some (.cells [.int .i64 0]))) km (some (.map []))) hb (some (.cells (hallC h ws cs km)))
  have hmk : upd (upd (upd m b3 (some (.cells [.int .i64 0]))) km (some (.map []))) hb (some (.cells (hallC h ws cs km))) km = some (.map []) := by rw [upd_ne _ _ g3.symm,upd_same]
  have hm3 : upd (upd (upd m b3 (some (.cells [.int .i64 0]))) km (some (.map []))) hb (some (.cells (hallC h ws cs km))) b3 = some (.cells [.int .i64 0]) := by rw [upd_ne _ _ k3h.symm,upd_ne _ _ k3k.symm,upd_same]
  have hsub : ∀ k z,m k = some z → upd (upd (upd m b3 (some (.cells [.int .i64 0]))) km (some (.map []))) hb (some (.cells (hallC h ws cs km))) k = some z := fun k z e => sub2' _ _ g2 g1 k z (by rw [upd_ne _ _ (by rintro rfl; rw [hb3] at e; cases e)]; exact e)
  generalize upd (upd (upd m b3 (some (.cells [.int .i64 0]))) km (some (.map []))) hb (some (.cells (hallC h ws cs km))) = m1 at *
  simp(maxSteps:=9^9)only[↓VX,VQ,seval,EN]
  intro b5 hb5 b6 hb6 b7 hb7
  have x51 : b5 ≠ hb := by rintro rfl; rw [hm] at hb5; cases hb5
  have x52 : b5 ≠ km := by rintro rfl; rw [hmk] at hb5; cases hb5
  have x53 : b5 ≠ b3 := by rintro rfl; rw [hm3] at hb5; cases hb5
  have x65 : b6 ≠ b5 := by rintro rfl; rw [if_pos rfl] at hb6; cases hb6
  rw [if_neg x65,if_neg x65] at hb6
  have x61 : b6 ≠ hb := by rintro rfl; rw [hm] at hb6; cases hb6
  have x62 : b6 ≠ km := by rintro rfl; rw [hmk] at hb6; cases hb6
  have x63 : b6 ≠ b3 := by rintro rfl; rw [hm3] at hb6; cases hb6
  have x76 : b7 ≠ b6 := by rintro rfl; rw [if_pos rfl] at hb7; cases hb7
  rw [if_neg x76] at hb7
  have x75 : b7 ≠ b5 := by rintro rfl; rw [if_pos rfl] at hb7; cases hb7
  rw [if_neg x75,if_neg x75] at hb7
  have x71 : b7 ≠ hb := by rintro rfl; rw [hm] at hb7; cases hb7
  have x72 : b7 ≠ km := by rintro rfl; rw [hmk] at hb7; cases hb7
  have x73 : b7 ≠ b3 := by rintro rfl; rw [hm3] at hb7; cases hb7
  obtain ⟨M,hM⟩ : ∃ M : Mem,M = upd (upd (upd (upd m1 b5 (some (.cells [.nilptr]))) b5 (some (.cells [.ptr hb 0]))) b6 (some (.cells [.mslice 0 0 0 0]))) b7 (some (.cells [.nilfunc])) := ⟨_,rfl⟩
  have y1 : M hb = some (.cells (hallC h ws cs km)) := by rw [hM,upd_ne _ _ x71.symm,upd_ne _ _ x61.symm,upd_ne _ _ x51.symm,upd_ne _ _ x51.symm]; exact hm
  have y2 : M km = some (.map []) := by rw [hM,upd_ne _ _ x72.symm,upd_ne _ _ x62.symm,upd_ne _ _ x52.symm,upd_ne _ _ x52.symm]; exact hmk
  have y3 : M b3 = some (.cells [.int .i64 0]) := by rw [hM,upd_ne _ _ x73.symm,upd_ne _ _ x63.symm,upd_ne _ _ x53.symm,upd_ne _ _ x53.symm]; exact hm3
  have y5 : M b5 = some (.cells [.ptr hb 0]) := by rw [hM,upd_ne _ _ x75.symm,upd_ne _ _ x65.symm,upd_same]
  have y6 : M b6 = some (.cells [.mslice 0 0 0 0]) := by rw [hM,upd_ne _ _ x76.symm,upd_same]
  have y7 : M b7 = some (.cells [.nilfunc]) := by rw [hM,upd_same]
  have ysub : ∀ k z,m k = some z → M k = some z := fun k z e => by
    have e1 := hsub k z e
    rw [hM,upd_ne _ _ (by rintro rfl; rw [hb7] at e1; cases e1),upd_ne _ _ (by rintro rfl; rw [hb6] at e1; cases e1),upd_ne _ _ (by rintro rfl; rw [hb5] at e1; cases e1),upd_ne _ _ (by rintro rfl; rw [hb5] at e1; cases e1)]
    exact e1
  rw [← hM]
  simp(maxSteps:=9^9)only[↓VX,VQ,seval,EN,x75.symm,x65.symm]
  refine ACall.told (dbegin_c h hd ws cs km hb M y1) ?_
  rintro r M0 ⟨rfl,rfl⟩
  have hst := stok_begin h hd
  have hov := dover_c h hd ws cs km hb (by omega) (by omega) (leftD h (begS h) + 1) (begS h) hst (Nat.lt_succ_self _) [] M0 (fun _ h => by cases h) y1 y2
  generalize hx0 : begS h = x0 at *
  simp only [standA,standL] at hov ⊢
  simp(maxSteps:=9^9)only[↓VX,VQ,seval,EN,y5]
  refine ACall.told hov ?_
  rintro r M1 ⟨rfl,⟨L1,l1,_,l2⟩,kk⟩
  have z1 := kk hb _ g3 y1
  have z3 := kk b3 _ k3k.symm y3
  have z5 := kk b5 _ x52 y5
  have z6 := kk b6 _ x62 y6
  have z7 := kk b7 _ x72 y7
  have hkm0 : m km = none := by rw [upd_ne _ _ k3k] at g2; exact g2
  have zsub : ∀ k z,m k = some z → M1 k = some z := fun k z e => kk k z (by rintro rfl; rw [hkm0] at e; cases e) (ysub k z e)
  generalize hoo : overD h ws cs x0 = o at *
  simp(maxSteps:=9^9)only[↓VX,VQ,seval,EN,z3]
  refine ⟨fun q => ?_,fun q => ?_⟩
  · rw [if_pos q] at eB
    subst eB
    refine ⟨_,m,fun k z e => ?_,⟨rfl,rfl⟩,fun G w v hm hr => hr.mono (frozen_le hm) fun _ _ _ => rfl⟩
    have e1 : k ≠ b3 := by rintro rfl; rw [hb3] at e; cases e
    rw [if_neg e1,if_neg e1]; exact zsub k z e
  rw [if_neg q] at eB
  obtain ⟨M2,hM2⟩ : ∃ M2 : Mem,M2 = upd (upd M1 b3 (some (.cells [.int .i64 o]))) b7 (some (.cells [.fn (.func 46) [] [.eptr [.int .i64 h.sl,.slice 4 (h.wri.map wriA),.slice 5 (h.cus.map cusA)],.ptr b5 0,.ptr b3 0,.ptr b6 0,.ptr b7 0]])) := ⟨_,rfl⟩
  have w1 : M2 hb = some (.cells (hallC h ws cs km)) := by rw [hM2,upd_ne _ _ x71.symm,upd_ne _ _ k3h]; exact z1
  have w2 : M2 km = some (.map (knownS h ws cs L1)) := by rw [hM2,upd_ne _ _ x72.symm,upd_ne _ _ k3k]; exact l2
  have w3 : M2 b3 = some (.cells [.int .i64 o]) := by rw [hM2,upd_ne _ _ x73.symm,upd_same]
  have w5 : M2 b5 = some (.cells [.ptr hb 0]) := by rw [hM2,upd_ne _ _ x75.symm,upd_ne _ _ x53]; exact z5
  have w6 : M2 b6 = some (.cells [.mslice 0 0 0 0]) := by rw [hM2,upd_ne _ _ x76.symm,upd_ne _ _ x63]; exact z6
  have w7 : M2 b7 = some (.cells [.fn (.func 46) [] [.eptr (hallL h),.ptr b5 0,.ptr b3 0,.ptr b6 0,.ptr b7 0]]) := by rw [hM2]; exact upd_same _ _ _
  have wsub : ∀ k z,m k = some z → M2 k = some z := fun k z e => by
    have e1 := ysub k z e
    have q7 : k ≠ b7 := by rintro rfl; have := hsub _ _ e; rw [hb7] at this; cases this
    rw [hM2,upd_ne _ _ q7,upd_ne _ _ (by rintro rfl; rw [hb3] at e; cases e)]
    exact zsub k z e
  have hfm : FindM h ws cs km hb b5 b3 b6 b7 o 0 0 [] M2 := ⟨w1,⟨L1,l1,w2⟩,w5,w3,w6,w7,⟨Nat.le_refl _,by unfold maxLen; omega,.inl rfl⟩,fun e => absurd rfl e⟩
  have hleft : leftD h x0 ≤ 8 := by
    unfold leftD
    have := List.length_filter_le (fun c => !x0.done.testBit c) (List.range h.cus.length)
    rw [List.length_range] at this
    have h1 := hd.n
    have h2 := hd.m
    omega
  have hfi := find_c h hd ws cs km hb b5 b3 b6 b7 (by omega) (by omega) o ⟨x61,x62,x65,x63,x76.symm⟩ (leftD h x0 + 1) x0 hst (Nat.lt_succ_self _) [] 0 0 M2 (by rw [List.length_nil]; omega) hfm
  simp only [standA,standL,hallL] at hfi
  simp(maxSteps:=9^9)only[↓VX,VQ,seval,EN,x73,x73.symm,x76,x76.symm,x75,x75.symm,z7]
  rw [← hM2]
  refine ACall.told hfi ?_
  rintro r M3 ⟨⟨b,rfl⟩,⟨ab,cap,f3⟩,k3⟩
  rw [List.nil_append] at f3
  have hAl := findF_length h ws cs o (leftD h x0 + 1) x0
  have hpre := plan_prefix (o := o) (ws := ws) (cs := cs) (leftD h x0 + 1) x0 (List.replicate h.wri.length []) hst.w
  have hx0w : x0.w = 0 := by rw [← hx0]; rfl
  rw [hx0w] at hpre
  have eP : planF h.wri.length (findF h ws cs o (leftD h x0 + 1) x0) = ((findF h ws cs o (leftD h x0 + 1) x0).foldl planStep (0,List.replicate h.wri.length [])).2 := rfl
  rw [eP] at eB
  generalize findF h ws cs o (leftD h x0 + 1) x0 = A at *
  have v3 := f3.p3
  have v6 := f3.p4
  have hgb := f3.g.box
  have hgl := f3.g.le
  have hgm := f3.g.lm
  have vsub : ∀ k z,m k = some z → M3 k = some z := fun k z e => k3 k z (by
    rintro (q | q | ⟨q,_⟩)
    · rw [q,hkm0] at e; cases e
    · rw [q] at e; have := hsub _ _ e; rw [hb6] at this; cases this
    · exact q rfl) (wsub k z e)
  have hn3 := hd.n
  clear hfi hov hlk hfm w1 w2 w3 w5 w6 w7 y1 y2 y3 y5 y6 y7 hM hM2 hm hmk hm3
  simp(maxSteps:=9^9)only[↓VX,VQ,seval,EN,v6]
  intro _
  refine ⟨⟨by omega,by omega,by omega⟩,fun pb hpb => ?_⟩
  have p6 : b6 ≠ pb := by rintro rfl; rw [v6] at hpb; cases hpb
  have p3 : b3 ≠ pb := by rintro rfl; rw [v3] at hpb; cases hpb
  simp(maxSteps:=9^9)only[↓VX,VQ,seval,EN,p6,v6]
  repeat'(first|intro _|apply And.intro)
  all_goals try first|omega|(simp only[LL];omega)|exact nlC (by decide) _|exact nbC rfl
  obtain ⟨J,hJ⟩ : ∃ J : Nat → Mem → List (Nat × Nat) → Prop,∀ k mk C,J k mk C ↔ (RowsM mk pb ((A.take k).foldl planStep (0,List.replicate h.wri.length [])).2 C ∧ (∀ j z,M3 j = some z → mk j = some z) ∧ ∀ i,i < h.wri.length → (C[i]!).2 ≠ 0 → M3 (C[i]!).1 = none) := ⟨_,fun _ _ _ => Iff.rfl⟩
  refine aloop (envNOk _ _ _) (fun s : Nat × Mem × List (Nat × Nat) => ⟨[(2,.v (.mslice pb 0 h.wri.length h.wri.length)),(3,.v (.ptr b3 0)),(9,.v (.int .i64 ((A.take s.1).foldl planStep (0,List.replicate h.wri.length [])).1)),(38,.v (.mslice ab 0 A.length cap)),(39,.v (.int .i64 A.length)),(40,.v (.int .i64 s.1))],[],[],s.2.1⟩)
    (fun s => s.1 ≤ A.length ∧ J s.1 s.2.1 s.2.2) (fun s => A.length - s.1) (0,upd M3 pb (some (.cells (List.replicate h.wri.length [AV.mslice 0 0 0 0]).flatten)),List.replicate h.wri.length (0,0)) (fun _ => rfl) ⟨Nat.zero_le _,(hJ _ _ _).2 ⟨?_,?_,?_⟩⟩ (by (simp only [FE,↓FP,seval]); try simp) ?_
  · exact rows_begin M3 pb h.wri.length
  · intro j z e
    show upd M3 pb _ j = some z
    rw [upd_ne _ _ (by rintro rfl; rw [hpb] at e; cases e)]; exact e
  · intro i hi e
    have e : ((List.replicate h.wri.length ((0 : Nat),(0 : Nat)))[i]!).2 ≠ 0 := e
    rw [rep_at _ hi] at e
    exact absurd rfl e
  rintro ⟨k,mk,C⟩ ⟨hk,hJk⟩
  dsimp only at hk hJk
  obtain ⟨hR,hkeep,hfresh⟩ := (hJ _ _ _).1 hJk
  have hlen : ((A.take k).foldl planStep (0,List.replicate h.wri.length [])).2.length = h.wri.length := by rw [planFold_len]; simp
  by_cases hlt : k < A.length
  · have hsn : (A.take (k + 1)).foldl planStep (0,List.replicate h.wri.length []) = planStep ((A.take k).foldl planStep (0,List.replicate h.wri.length [])) A[k]! := by
      rw [List.take_succ_eq_append_getElem hlt,List.foldl_append,getD_any hlt]; rfl
    obtain ⟨hw1,hw2⟩ := hpre k hlt
    obtain ⟨tail,hM3⟩ : ∃ tail : List AV,M3 ab = some (.cells (((A.map (AV.int .i64)).map AV.cells).flatten ++ tail)) := by
      rcases hgb with e | ⟨tail,e,_⟩
      · omega
      · exact ⟨tail,e⟩
    have hmab := hkeep _ _ hM3
    obtain ⟨R,hdr⟩ := drop_row A tail hlt
    have hrl := planFold_row (A.take k) (0,List.replicate h.wri.length [])
    have htk : (A.take k).length ≤ 9 := by rw [List.length_take]; omega
    have hrow0 : ∀ w : Nat,((0,List.replicate h.wri.length []) : Nat × List (List Int)).2[w]!.length = 0 := fun w => by
      by_cases q : w < h.wri.length
      · show ((List.replicate h.wri.length ([] : List Int))[w]!).length = 0
        rw [rep_at _ q]; rfl
      · show ((List.replicate h.wri.length ([] : List Int))[w]!).length = 0
        simp [List.getElem!_eq_getElem?_getD,q]
        rfl
    generalize (A.take k).foldl planStep (0,List.replicate h.wri.length []) = S at *
    obtain ⟨w,p⟩ := S
    dsimp only at hR hw1 hw2 hlen hsn
    have hAk : 0 ≤ A.length := Nat.zero_le _
    by_cases hneg : A[k]! < 0
    · have hps : planStep (w,p) A[k]! = (w + 1,p) := if_pos hneg
      rw [hps] at hsn
      simp(maxSteps:=9^9)only[↓VX,VQ,seval,EN,hmab,↓hdr]
      repeat'(first|intro _|apply And.intro)
      all_goals try first|omega|(simp only[LL];omega)|exact nlC (by decide) _|exact nbC rfl
      refine ⟨(k + 1,mk,C),⟨by dsimp only; omega,(hJ _ _ _).2 ⟨by rw [hsn]; exact hR,hkeep,hfresh⟩⟩,by dsimp only; omega,?_⟩
      (simp only [FE,↓FP,seval])
      rw [hsn]
      simp
    · have hps : planStep (w,p) A[k]! = (w,p.set w (p[w]! ++ [A[k]!])) := if_neg hneg
      rw [hps] at hsn
      have hwl := hw2 (by omega)
      simp(maxSteps:=9^9)only[↓VX,VQ,seval,EN,hmab,↓hdr]
      repeat'(first|intro _|apply And.intro)
      all_goals try first|omega|(simp only[LL];omega)|exact nlC (by decide) _|exact nbC rfl
      have hwp : w < p.length := by omega
      obtain ⟨R2,hdp⟩ := rows_drop (C := C) hwp
      obtain ⟨r1,r2,r3⟩ := hR.row w hwp
      have hbox := hR.box
      have hcl := hR.len
      have hlc : (((List.range p.length).map fun i => AV.mslice (C[i]!).1 0 (p[i]!).length (C[i]!).2)).length = p.length := by simp
      generalize hCL : ((List.range p.length).map fun i => AV.mslice (C[i]!).1 0 (p[i]!).length (C[i]!).2) = CL at *
      refine acut_at_k 8 (envNOk _ _ _) (V := vcAppG _) (fun h hd _ _ _ hi hf hs _ _ _ hn => vcAppG_sound (envNOk _ _ _) h hd hi hf hs hn) rfl rfl (fun s : Mem × List (Nat × Nat) => ⟨[(2,.v (.mslice pb 0 h.wri.length h.wri.length)),(3,.v (.ptr b3 0)),(9,.v (.int .i64 w)),(38,.v (.mslice ab 0 A.length cap)),(39,.v (.int .i64 A.length)),(40,.v (.int .i64 k))],[],[],s.1⟩)
        (fun s => J (k + 1) s.1 s.2) (fun _ => rfl) ?_ ?_
      · show vcOps _ _ (_ :: _) _ _
        simp(maxSteps:=9^9)only[↓VX,VQ,seval,List.take_succ_cons,List.take_zero,vcAppG,vcAppE,EN,hbox,↓hdp]
        have hpl : (p[w]!).length ≤ 9 := by
          have h1 : (p[w]!).length ≤ _ := hrl w
          rw [hrow0 w] at h1
          omega
        have hmap : (p[w]! ++ [A[k]!]).map (AV.int .i64) = (p[w]!).map (AV.int .i64) ++ [AV.int .i64 A[k]!] := by rw [List.map_append]; rfl
        obtain ⟨tail2,t1,t2⟩ : ∃ tail : List AV,(((C[w]!).2 = 0 ∧ (p[w]!).map (AV.int .i64) = [] ∧ tail = []) ∨ mk (C[w]!).1 = some (.cells ((((p[w]!).map (AV.int .i64)).map AV.cells).flatten ++ tail))) ∧ tail.length = (C[w]!).2 - (p[w]!).length := by
          rcases r3 with e | ⟨_,t,e1,e2⟩
          · have : p[w]! = [] := List.eq_nil_of_length_eq_zero (by omega)
            rw [this]
            exact ⟨[],.inl ⟨e,rfl,rfl⟩,by rw [e]; rfl⟩
          · exact ⟨t,.inr e1,e2⟩
        refine ⟨⟨by omega,hwl⟩,(p[w]!).map (AV.int .i64),tail2,t1,⟨by rw [List.length_map],r1,r2,t2,fun x hx => ?_,by rw [List.length_map]; omega⟩,?_,?_⟩
        · obtain ⟨q,_,rfl⟩ := List.mem_map.1 hx
          exact ⟨rfl,rfl⟩
        · rw [List.length_map]
          intro q
          have hcap : (C[w]!).2 ≠ 0 := by omega
          have hne : pb ≠ (C[w]!).1 := by
            rcases r3 with e | ⟨e,_⟩
            · exact absurd e hcap
            · exact e.symm
          have hg := hR.grow hwp (.inl ⟨hcap,rfl⟩) A[k]! (tail2.drop 1) (by rw [List.length_drop,t2]; omega) q r2
          simp(maxSteps:=9^9)only[↓VX,VQ,seval,EN,hne,hbox]
          rw [hCL] at hg
          obtain ⟨M,hM⟩ : ∃ M : Mem,M = upd (upd mk (C[w]!).1 (some (.cells ((((p[w]! ++ [A[k]!]).map (AV.int .i64)).map AV.cells).flatten ++ tail2.drop 1)))) pb (some (.cells (CL.set w (.mslice (C[w]!).1 0 ((p[w]!).length + 1) (C[w]!).2)))) := ⟨_,rfl⟩
          rw [← hM] at hg
          have hwC : w < C.length := by omega
          refine ⟨⟨by omega,hwl⟩,by omega,(M,C.set w ((C[w]!).1,(C[w]!).2)),(hJ _ _ _).2 ⟨by rw [hsn]; exact hg,fun j z e => ?_,fun i hi h0 => ?_⟩,?_⟩
          · show M j = some z
            rw [hM,upd_ne _ _ (by rintro rfl; rw [hpb] at e; cases e),upd_ne _ _ (by rintro rfl; have := hfresh w hwl hcap; rw [e] at this; cases this)]
            exact hkeep j z e
          · have hC := set_at C ((C[w]!).1,(C[w]!).2) hwC (j := i)
            have h0 : ((C.set w ((C[w]!).1,(C[w]!).2))[i]!).2 ≠ 0 := h0
            show M3 ((C.set w ((C[w]!).1,(C[w]!).2))[i]!).1 = none
            rw [hC] at h0 ⊢
            split
            · exact hfresh w hwl hcap
            · rename_i e
              rw [if_neg e] at h0
              exact hfresh i hi h0
          · (simp only [FE,↓FP,seval])
            have hov := overlay_one (l := CL) (i := w) (by omega) (.mslice (C[w]!).1 0 ((p[w]!).length + 1) (C[w]!).2)
            rw [hM,hmap,← hov]
            rfl
        · rw [List.length_map]
          intro q b' cap' tail' q1 q2 q3 q4
          have hne : pb ≠ b' := by rintro rfl; rw [hbox] at q1; cases q1
          have hg := hR.grow hwp (.inr q1) A[k]! tail' q4 q2 q3
          simp(maxSteps:=9^9)only[↓VX,VQ,seval,EN,hne,hbox]
          rw [hCL] at hg
          obtain ⟨M,hM⟩ : ∃ M : Mem,M = upd (upd mk b' (some (.cells ((((p[w]! ++ [A[k]!]).map (AV.int .i64)).map AV.cells).flatten ++ tail')))) pb (some (.cells (CL.set w (.mslice b' 0 ((p[w]!).length + 1) cap')))) := ⟨_,rfl⟩
          rw [← hM] at hg
          have hwC : w < C.length := by omega
          refine ⟨⟨by omega,hwl⟩,by omega,(M,C.set w (b',cap')),(hJ _ _ _).2 ⟨by rw [hsn]; exact hg,fun j z e => ?_,fun i hi h0 => ?_⟩,?_⟩
          · show M j = some z
            rw [hM,upd_ne _ _ (by rintro rfl; rw [hpb] at e; cases e),upd_ne _ _ (by rintro rfl; have := hkeep _ _ e; rw [q1] at this; cases this)]
            exact hkeep j z e
          · have hC := set_at C (b',cap') hwC (j := i)
            have h0 : ((C.set w (b',cap'))[i]!).2 ≠ 0 := h0
            show M3 ((C.set w (b',cap'))[i]!).1 = none
            rw [hC] at h0 ⊢
            split
            · cases q9 : M3 b' with
              | none => rfl
              | some z => have := hkeep _ _ q9; rw [q1] at this; cases this
            · rename_i e
              rw [if_neg e] at h0
              exact hfresh i hi h0
          · (simp only [FE,↓FP,seval])
            have hov := overlay_one (l := CL) (i := w) (by omega) (.mslice b' 0 ((p[w]!).length + 1) cap')
            rw [hM,hmap,← hov]
            rfl
      rintro ⟨M5,C5⟩ hJ5
      simp(maxSteps:=9^9)only[↓VX,VQ,seval,EN]
      repeat'(first|intro _|apply And.intro)
      all_goals try first|omega|(simp only[LL];omega)|exact nlC (by decide) _|exact nbC rfl
      refine ⟨(k + 1,M5,C5),⟨by dsimp only; omega,hJ5⟩,by dsimp only; omega,?_⟩
      (simp only [FE,↓FP,seval])
      rw [hsn]
      simp
  · have hke : k = A.length := by omega
    subst hke
    rw [List.take_length] at hR hlen
    have v30 := v3
    have v3 := hkeep _ _ v3
    simp(maxSteps:=9^9)only[↓VX,VQ,seval,EN]
    repeat'(first|intro _|apply And.intro)
    all_goals try first|omega|(simp only[LL];omega)|exact nlC (by decide) _|exact nbC rfl
    (refine adraw (envNOk _ _ _) mixed [⟨false,false,0⟩,⟨false,false,0⟩,⟨false,false,0⟩,⟨false,false,0⟩,⟨false,false,0⟩] (by kernel_rfl) ?_; show vcOpsD _ _ _ (_ :: _) _ _)
    simp(maxSteps:=9^9)only[↓VX,VQ,seval,EN,v3]
    subst eB
    have hnone : ∀ j,M3 j = none → m j = none := fun j e => by
      cases q : m j with
      | none => rfl
      | some z => rw [vsub j z q] at e; cases e
    have hR2 := hR.put p3 (fun i hi h0 e => by
      have := hfresh i (by omega) h0
      rw [e] at this
      rw [this] at v30; cases v30) (some (.cells [.int .i64 o]))
    generalize (A.foldl planStep (0,List.replicate h.wri.length [])).2 = p at *
    refine ⟨_,m,fun j z e => ?_,⟨rfl,rfl⟩,fun G w v hm hr => rep_tuple3 hr (fun u hu => ?_) (fun u hu => hu.mono (frozen_le hm) fun _ _ _ => rfl) (fun u hu => hu.mono (frozen_le hm) fun _ _ _ => rfl)⟩
    · rw [if_neg (by rintro rfl; rw [hb3] at e; cases e)]
      exact hkeep j z (vsub j z e)
    · rw [← hlen] at hu
      exact rows_settle hR2 (hnone _ hpb) (fun i hi h0 => hnone _ (hfresh i (by omega) h0)) (by unfold maxLen; omega) hm hu
end Go.Proofs.YteppmjlfpniiaaaGreat.Abs
