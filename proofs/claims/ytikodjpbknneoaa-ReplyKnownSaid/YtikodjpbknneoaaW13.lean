/- Lemmas for the statements of this seat (W13): they hold without conditions beyond those that each one states. -/
import Derived.Test.YtikodjpbknneoaaW12
import Derived.Test.YtikodjpbknneoaaW3
import Derived.Test.YtikodjpbknneoaaW10
import Derived.Test.YtikodjpbknneoaaW2
/- Contracts: reply: First. -/
namespace Go.Proofs.Ytikodjpbknneoaa.Abs
set_option linter.unusedSimpArgs false
set_option maxHeartbeats 4000000
set_option maxRecDepth 100000
open Go Go.RowKit Go.Proofs
def bestL : List (RTru × List Int) → List Int
 | [] => []
 | x :: l => l.foldl (fun b y => if befL y.2 b = true then y.2 else b) x.2
theorem bestL_snoc (L : List (RTru × List Int)) (x : RTru × List Int) (h : L ≠ []) : bestL (L ++ [x]) = if befL x.2 (bestL L) = true then x.2 else bestL L := by
 match L,h with
 | y :: L,_ => unfold bestL; rw [List.cons_append]; simp only [List.foldl_append,List.foldl_cons,List.foldl_nil]
theorem bestF_L : ∀ (F : List (RTru × List Int)) (n : Nat),n < F.length → bestF F n = bestL (F.take (n + 1))
 | F,0,h => by
  match F,h with
  | x :: F,_ => rfl
 | F,n + 1,h => by
  have ih := bestF_L F n (by omega)
  have e : bestF F (n + 1) = if befL (F[n + 1]!).2 (bestF F n) = true then (F[n + 1]!).2 else bestF F n := rfl
  rw [e,ih,List.take_succ_eq_append_getElem h,bestL_snoc _ _ (by
   intro q
   have := congrArg List.length q
   rw [List.length_take,List.length_nil] at this
   omega),getD_any h]
theorem bestL_all {F : List (RTru × List Int)} (h : 0 < F.length) : bestF F (F.length - 1) = bestL F := by
 rw [bestF_L F _ (by omega),show F.length - 1 + 1 = F.length by omega,List.take_length]
theorem bestL_mem : ∀ {L : List (RTru × List Int)},L ≠ [] → ∃ x ∈ L,bestL L = x.2 := by
 intro L h
 match L,h with
 | y :: L,_ =>
  have key : ∀ (L : List (RTru × List Int)) (z : RTru × List Int),∃ x ∈ z :: L,L.foldl (fun b y => if befL y.2 b = true then y.2 else b) z.2 = x.2 := by
   intro L
   induction L with
   | nil => exact fun z => ⟨z,by simp,rfl⟩
   | cons a L ih =>
    intro z
    rw [List.foldl_cons]
    by_cases q : befL a.2 z.2 = true
    ·rw [if_pos q]
     obtain ⟨x,hx,e⟩ := ih a
     exact ⟨x,List.mem_cons_of_mem _ hx,e⟩
    ·rw [if_neg q]
     obtain ⟨x,hx,e⟩ := ih z
     rcases List.mem_cons.1 hx with rfl | hx
     ·exact ⟨x,by simp,e⟩
     ·exact ⟨x,by simp [hx],e⟩
  exact key L y
def decL (w : List Int) (i : Nat) : List Int := (List.range w.length).map fun k => if k < i then w[k]! else w[k]! + 1
theorem decL_length (w : List Int) (i : Nat) : (decL w i).length = w.length := by unfold decL; simp
theorem decL_get {w : List Int} {i k : Nat} (_h : k < w.length) (h2 : k < (decL w i).length) : (decL w i)[k] = if k < i then w[k]! else w[k]! + 1 := by
 simp only [decL,List.getElem_map,List.getElem_range]
theorem decL_zero (w : List Int) : decL w 0 = w.map (· + 1) := by
 refine List.ext_getElem (by rw [decL_length,List.length_map]) fun k h1 h2 => ?_
 rw [List.length_map] at h2
 rw [decL_get h2,if_neg (by omega),List.getElem_map,getD_any h2]
theorem decL_all (w : List Int) : decL w w.length = w := by
 refine List.ext_getElem (by rw [decL_length]) fun k h1 h2 => ?_
 rw [decL_get h2,if_pos h2,getD_any h2]
theorem decL_at {w : List Int} {i : Nat} (h : i < w.length) : (decL w i)[i]! = w[i]! + 1 := by
 rw [getD_any (by rw [decL_length]; exact h),decL_get h,if_neg (by omega)]
theorem decL_set {w : List Int} {i : Nat} (_h : i < w.length) : (decL w i).set i (w[i]!) = decL w (i + 1) := by
 refine List.ext_getElem (by rw [List.length_set,decL_length,decL_length]) fun k h1 h2 => ?_
 rw [List.getElem_set]
 have hk : k < w.length := by rw [decL_length] at h2; exact h2
 by_cases q : i = k
 ·subst q
  rw [if_pos rfl,decL_get hk,if_pos (by omega)]
 ·rw [if_neg q,decL_get hk,decL_get hk]
  by_cases q2 : k < i
  ·rw [if_pos q2,if_pos (by omega)]
  ·rw [if_neg q2,if_neg (by omega)]
theorem first_top (b : RBook) (hs : hnamesFit b.harb) : PCall Try.prog 7 [bookA b] (.tuple [ints (firstR b).1,.int .i64 (firstR b).2.1,.int .i64 (firstR b).2.2]) := by
 intro m
 refine ACall.forget ?_
 have hen := renter_c b hs [] (fun _ => ⟨by simp,fun j hj => by simp at hj⟩) m
 have hpl : pairsL [] = [] := rfl
 rw [hpl,check_enter] at hen
 have e0 : firstR b = if (checkB b).2.2 = 0 then (bestF (fairR b) ((fairR b).length - 1),manyL (bestF (fairR b) ((fairR b).length - 1)),0) else ([],0,(checkB b).2.2) := rfl
 have hfF := fun bk => fairF_c bk
 have hf1 := fun (hb : BOk b) (bk : Nat) (m : Mem) (h : Looked b (.slice 3 (b.answers.map ansA)) bk m) (l : Nat) (J : List (RTru × List Int) → Mem → Prop) (hy : FYok b m l J) (m1 : Mem) (hJ : J [] m1) => fair1_c b hb _ bk m h l J hy m1 hJ
 have hfr := fun (hb : BOk b) (x : RTru × List Int) (hx : x ∈ fairR b) => fair_range hb hx
 simp only [bookA,bookL,harbA,harbL,ints,List.cons_append,List.nil_append,List.map_cons,List.map_nil] at hen ⊢
 (refine acall_intro (E := envC (modeAt [9] [6,7,33]) false [11]) (envCOk _ _ _) rfl Try.func7 rfl Try.call7 (by kernel_rfl) (by simp [Try.ntmps7]) ?_; simp only [Try.f7];  simp(maxSteps:=9^9)only[↓VX,VQ,ite_self,Nat.reduceEqDiff,Nat.reduceAdd,Nat.reduceSub,Nat.reduceMul,Nat.reduceLeDiff,Nat.reduceLT,Nat.reduceBEq,Int.reduceLE,Int.reduceLT,Int.reduceNeg,Int.reduceAdd,Int.reduceSub,Int.reduceToNat,↓reduceIte,reduceCtorEq,Int.reduceEq])
 repeat'(first|intro _|apply And.intro)
 all_goals try first|omega|(simp only[LL];omega)|exact nlC (by decide) _|exact nbC rfl
 refine ACall.told hen ?_
 rintro r m1 (⟨z1,rfl,rfl⟩ | ⟨z1,hb,z2,bk,rfl,g1,g2⟩)
 ·rw [if_neg z1] at e0
  rw [e0]
  generalize (checkB b).2.2 = C at *
  simp(maxSteps:=9^9)only[↓VX,VQ,ite_self,Nat.reduceEqDiff,Nat.reduceAdd,Nat.reduceSub,Nat.reduceMul,Nat.reduceLeDiff,Nat.reduceLT,Nat.reduceBEq,Int.reduceLE,Int.reduceLT,Int.reduceNeg,Int.reduceAdd,Int.reduceSub,Int.reduceToNat,↓reduceIte,reduceCtorEq]
  repeat'(first|intro _|apply And.intro)
  all_goals try first|omega|(simp only[LL];omega)|exact nlC (by decide) _|exact nbC rfl
  exact ⟨m1,fun _ _ h => h,rfl⟩
 ·have hfp := fair_pos hb
  rw [if_pos z1,bestL_all hfp] at e0
  have hme : ∃ x ∈ fairR b,bestL (fairR b) = x.2 := bestL_mem (fun q => by rw [q] at hfp; cases hfp)
  obtain ⟨x0,hx0,hbx⟩ := hme
  have hmany : manyL (bestL (fairR b)) = leastR b := by rw [hbx]; exact (fair_mem.1 hx0).2.2
  obtain ⟨hbl2,hbr⟩ := hfr hb x0 hx0
  rw [← hbx] at hbl2 hbr
  rw [hmany] at e0
  rw [e0]
  clear e0 hen
  have hna := hb.n
  have hfr1 := hfr hb
  have hf2 := hf1 hb bk m1 g2
  simp(maxSteps:=9^9)only[↓VX,VQ,ite_self,Nat.reduceEqDiff,Nat.reduceAdd,Nat.reduceSub,Nat.reduceMul,Nat.reduceLeDiff,Nat.reduceLT,Nat.reduceBEq,Int.reduceLE,Int.reduceLT,Int.reduceNeg,Int.reduceAdd,Int.reduceSub,Int.reduceToNat,↓reduceIte,reduceCtorEq,z1]
  repeat'(first|intro _|apply And.intro)
  all_goals try first|omega|(simp only[LL];omega)|exact nlC (by decide) _|exact nbC rfl
  rename_i bb hbb bf hbf
  have nfb : bf ≠ bb := by rintro rfl; simp at hbf
  have hbf0 : m1 bf = none := by simpa [nfb] using hbf
  (refine ACall.pure (hfF bk) ?_; try simp(maxSteps:=9^9)only[↓VX,VQ,ite_self,Nat.reduceEqDiff,Nat.reduceAdd,Nat.reduceSub,Nat.reduceMul,Nat.reduceLeDiff,Nat.reduceLT,Nat.reduceBEq,Int.reduceLE,Int.reduceLT,Int.reduceNeg,Int.reduceAdd,Int.reduceSub,Int.reduceToNat,↓reduceIte,reduceCtorEq])
  refine arange rfl (f := 38) (first := []) (caps := [.eptr [.ptr bk 0]]) (by simp(maxSteps:=9^9)only[↓VX,VQ,ite_self,Nat.reduceEqDiff,Nat.reduceAdd,Nat.reduceSub,Nat.reduceMul,Nat.reduceLeDiff,Nat.reduceLT,Nat.reduceBEq,Int.reduceLE,Int.reduceLT,Int.reduceNeg,Int.reduceAdd,Int.reduceSub,Int.reduceToNat,↓reduceIte,reduceCtorEq]) ?_
  intro l hl
  have nlf : l ≠ bf := by rintro rfl; simp [upd] at hl
  have nlb : l ≠ bb := by rintro rfl; simp [upd,nfb.symm] at hl
  have hl0 : m1 l = none := by simpa [upd,nlb,nlf] using hl
  generalize hR : LoopA.mk _ _ _ _ _ = R
  have hyok : FYok b m1 l (fun pre m2 => m2 l = some (.loop .ready none R) ∧ m2 bb = some (.cells ((ownE (bestL pre)).map (AV.int .i64))) ∧ m2 bf = some (.cells [.bool (decide (pre = []))]) ∧ (∀ x ∈ pre,x ∈ fairR b) ∧ ∀ k y,m1 k = some y → m2 k = some y) := by
   refine ⟨fun pre m2 hJ => hJ.2.2.2.2,fun pre x m2 hpl hx hJ => ?_⟩
   obtain ⟨j3,j4,j5,j6,j7⟩ := hJ
   subst hR
   refine ayield (E := envC (modeAt [9] [6,7,33]) true [11]) (envCOk _ _ _) rfl j3 rfl (by rfl) (by rfl) (by rfl) ?_
   have hfl3 := ownE_flat x.2
   have hln3 := ownE_mlen x.2
   have htk3 := ownE_take x.2
   obtain ⟨hx1,hx2⟩ := hfr1 x hx
   have hin : ∀ y ∈ pre ++ [x],y ∈ fairR b := fun y hy => by
    rcases List.mem_append.1 hy with h | h
    ·exact j6 y h
    ·rw [List.mem_singleton.1 h]; exact hx
   simp only [fateFA]
   by_cases hp : pre = []
   ·subst hp
    have e1 : bestL ([] ++ [x]) = x.2 := rfl
    have e2 : decide (([] : List (RTru × List Int)) = []) = true := rfl
    rw [e2] at j5
    simp only [ownA]
    simp(maxSteps:=9^9)only[↓VX,VQ,ite_self,Nat.reduceEqDiff,Nat.reduceAdd,Nat.reduceSub,Nat.reduceMul,Nat.reduceLeDiff,Nat.reduceLT,Nat.reduceBEq,Int.reduceLE,Int.reduceLT,Int.reduceNeg,Int.reduceAdd,Int.reduceSub,Int.reduceToNat,↓reduceIte,reduceCtorEq,j3,j4,j5,nlb,nlb.symm,nlf,nlf.symm,nfb,nfb.symm,hfl3,hln3,htk3,List.drop_zero]
    repeat'(first|intro _|apply And.intro)
    all_goals try first|omega|(simp only[LL];omega)|exact nlC (by decide) _|exact nbC rfl
    ·rw [List.drop_eq_nil_of_le (by rw [ownE_mlen]; omega),List.append_nil]; rfl
    ·simp
    ·rename_i y hy
     exact hin y (by simpa using hy)
    ·rename_i k y hy
     have d1 := ne_of_some hy hl0
     have d2 := ne_of_some hy hbb
     have d3 := ne_of_some hy hbf0
     simp only [if_neg d1,if_neg d2,if_neg d3]
     exact j7 k y hy
   ·have e1 := bestL_snoc pre x hp
    have e2 : decide (pre = []) = false := decide_eq_false hp
    rw [e2] at j5
    obtain ⟨y0,hy0,hby⟩ := bestL_mem hp
    obtain ⟨hy1,hy2⟩ := hfr1 y0 (j6 y0 hy0)
    rw [← hby] at hy1 hy2
    have hbe := before_c x.2 (bestL pre) (by omega) (by omega) (fun q hq => (hx2 q hq).1) (fun q hq => (hy2 q hq).1)
    have hfl4 := ownE_flat (bestL pre)
    have hln4 := ownE_mlen (bestL pre)
    have htk4 := ownE_take (bestL pre)
    simp only [ownA] at hbe ⊢
    simp(maxSteps:=9^9)only[↓VX,VQ,ite_self,Nat.reduceEqDiff,Nat.reduceAdd,Nat.reduceSub,Nat.reduceMul,Nat.reduceLeDiff,Nat.reduceLT,Nat.reduceBEq,Int.reduceLE,Int.reduceLT,Int.reduceNeg,Int.reduceAdd,Int.reduceSub,Int.reduceToNat,↓reduceIte,reduceCtorEq,j3,j4,j5,nlb,nlb.symm,nlf,nlf.symm,nfb,nfb.symm,hfl3,hln3,htk3,hfl4,hln4,htk4,List.drop_zero]
    repeat'(first|intro _|apply And.intro)
    all_goals try first|omega|(simp only[LL];omega)|exact nlC (by decide) _|exact nbC rfl
    refine ACall.pure hbe ?_
    cases hbv : befL x.2 (bestL pre)
    ·rw [hbv,if_neg (by decide)] at e1
     simp(maxSteps:=9^9)only[↓VX,VQ,ite_self,Nat.reduceEqDiff,Nat.reduceAdd,Nat.reduceSub,Nat.reduceMul,Nat.reduceLeDiff,Nat.reduceLT,Nat.reduceBEq,Int.reduceLE,Int.reduceLT,Int.reduceNeg,Int.reduceAdd,Int.reduceSub,Int.reduceToNat,↓reduceIte,reduceCtorEq,j3,j4,j5,nlb,nlb.symm,nlf,nlf.symm,nfb,nfb.symm,hfl3,hln3,htk3,hfl4,hln4,htk4,List.drop_zero]
     repeat'(first|intro _|apply And.intro)
     all_goals try first|omega|(simp only[LL];omega)|exact nlC (by decide) _|exact nbC rfl
     ·rw [e1]
     ·simp
     ·rename_i y hy
      exact hin y hy
     ·rename_i k y hy
      have d1 := ne_of_some hy hl0
      have d2 := ne_of_some hy hbb
      have d3 := ne_of_some hy hbf0
      simp only [if_neg d1,if_neg d2,if_neg d3]
      exact j7 k y hy
    ·rw [hbv,if_pos rfl] at e1
     simp(maxSteps:=9^9)only[↓VX,VQ,ite_self,Nat.reduceEqDiff,Nat.reduceAdd,Nat.reduceSub,Nat.reduceMul,Nat.reduceLeDiff,Nat.reduceLT,Nat.reduceBEq,Int.reduceLE,Int.reduceLT,Int.reduceNeg,Int.reduceAdd,Int.reduceSub,Int.reduceToNat,↓reduceIte,reduceCtorEq,j3,j4,j5,nlb,nlb.symm,nlf,nlf.symm,nfb,nfb.symm,hfl3,hln3,htk3,hfl4,hln4,htk4,List.drop_zero]
     repeat'(first|intro _|apply And.intro)
     all_goals try first|omega|(simp only[LL];omega)|exact nlC (by decide) _|exact nbC rfl
     ·rw [e1,List.drop_eq_nil_of_le (by rw [ownE_mlen]; omega),List.append_nil]
     ·simp
     ·rename_i y hy
      exact hin y hy
     ·rename_i k y hy
      have d1 := ne_of_some hy hl0
      have d2 := ne_of_some hy hbb
      have d3 := ne_of_some hy hbf0
      simp only [if_neg d1,if_neg d2,if_neg d3]
      exact j7 k y hy
  refine ACall.mono (hf2 l _ hyok _ ⟨upd_same _ _ _,?_,?_,by simp,fun k y hy => ?_⟩) ?_
  ·show upd _ _ _ bb = _
   rw [upd_ne _ _ nlb.symm]
   simp [upd,nfb.symm,bestL,ownE_nil]
  ·show upd _ _ _ bf = _
   rw [upd_ne _ _ nlf.symm]
   simp [upd]
  ·show upd _ _ _ k = _
   rw [upd_ne _ _ (ne_of_some hy hl0)]
   simp only [upd,if_neg (ne_of_some hy hbb),if_neg (ne_of_some hy hbf0)]
   exact hy
  ·rintro r m' ⟨j3,j4,j5,_,j7⟩
   have hg2 := g2.sub j7
   obtain ⟨⟨fb,cap,km,kv,tail,k1,k2,k3,k4,k5,k6⟩,k7⟩ := hg2
   have hcbk := k1
   have hE3 := ownE_length (bestL (fairR b))
   have hEm := ownE_mlen (bestL (fairR b))
   have hEt := ownE_takeW (w := bestL (fairR b)) (by omega)
   generalize bestL (fairR b) = W at *
   simp only [bookC,harbL,ints,List.cons_append,List.nil_append] at hcbk
   have hbr2 : ∀ i,i < W.length → -1 ≤ W[i]! ∧ W[i]! ≤ 4 := fun i hi => hbr _ (by rw [getD_any hi]; exact List.getElem_mem hi)
   simp(maxSteps:=9^9)only[↓VX,VQ,ite_self,Nat.reduceEqDiff,Nat.reduceAdd,Nat.reduceSub,Nat.reduceMul,Nat.reduceLeDiff,Nat.reduceLT,Nat.reduceBEq,Int.reduceLE,Int.reduceLT,Int.reduceNeg,Int.reduceAdd,Int.reduceSub,Int.reduceToNat,↓reduceIte,reduceCtorEq,j3,j4,j5,nlb,nlb.symm,nlf,nlf.symm]
   repeat'(first|intro _|apply And.intro)
   all_goals try first|omega|(simp only[LL];omega)|exact nlC (by decide) _|exact nbC rfl
   rename_i bl hbl
   have nbl : bl ≠ bb := fun e => by
    rw [e,if_neg nlb.symm,j4] at hbl; cases hbl
   refine acut_at_k 2 (envCOk _ _ _) (V := vcCopyM _) (fun h hd _ _ _ hi hf hs _ _ _ hn => vcCopyM_sound (envCOk _ _ _) h hd hi hf hs hn) rfl rfl (fun (_ : Unit) => ⟨[(2,.v (.mslice bl 0 b.answers.length b.answers.length)),(5,.v (.ptr bk 0))],[],[],upd (upd m' l none) bl (some (.cells ((decL W 0).map (AV.int .i64))))⟩) (fun _ => True) (fun _ => rfl) ?_ ?_
   ·show vcOps _ _ (_ :: _) _ _
    simp(maxSteps:=9^9)only[↓VX,VQ,ite_self,Nat.reduceEqDiff,Nat.reduceAdd,Nat.reduceSub,Nat.reduceMul,Nat.reduceLeDiff,Nat.reduceLT,Nat.reduceBEq,Int.reduceLE,Int.reduceLT,Int.reduceNeg,Int.reduceAdd,Int.reduceSub,Int.reduceToNat,↓reduceIte,reduceCtorEq,List.take_succ_cons,List.take_zero,vcCopyM,j4,nlb,nlb.symm,nbl,nbl.symm]
    have hzl : ((List.replicate b.answers.length [AV.int .i64 0]).flatten).length = b.answers.length := by simp
    have hcp : ((ownE W).map (AV.int .i64)).take b.answers.length = (W.map (· + 1)).map (AV.int .i64) := by rw [← List.map_take,← hbl2,hEt]
    refine ⟨⟨by decide,by decide,by decide⟩,⟨by omega,by omega,by omega,?_⟩,(),?_⟩
    ·rw [hcp]; simp [flat]
    ·(simp only [FE,↓FP,seval])
     rw [decL_zero,hcp,updTwice]
     try simp [overlay,hbl2]
   ·intro _ _
    simp(maxSteps:=9^9)only[↓VX,VQ,ite_self,Nat.reduceEqDiff,Nat.reduceAdd,Nat.reduceSub,Nat.reduceMul,Nat.reduceLeDiff,Nat.reduceLT,Nat.reduceBEq,Int.reduceLE,Int.reduceLT,Int.reduceNeg,Int.reduceAdd,Int.reduceSub,Int.reduceToNat,↓reduceIte,reduceCtorEq]
    repeat'(first|intro _|apply And.intro)
    all_goals try first|omega|(simp only[LL];omega)|exact nlC (by decide) _|exact nbC rfl
    refine aloop (envCOk _ _ _) (fun i : Nat => ⟨[(2,.v (.mslice bl 0 b.answers.length b.answers.length)),(5,.v (.ptr bk 0)),(37,.v (.mslice bl 0 b.answers.length b.answers.length)),(38,.v (.int .i64 b.answers.length)),(39,.v (.int .i64 i))],[],[],upd (upd m' l none) bl (some (.cells ((decL W i).map (AV.int .i64))))⟩)
     (fun i => i ≤ b.answers.length) (fun i => b.answers.length - i) 0 (fun _ => rfl) (by omega) (by (simp only [FE,↓FP,seval]); try simp) ?_
    intro i hi
    by_cases hil : i < b.answers.length
    ·have hd := drop_ints (l := decL W i) (k := i) (by rw [decL_length]; omega)
     rw [decL_at (by omega)] at hd
     have hb2 := hbr2 i (by omega)
     have hds := decL_set (w := W) (i := i) (by omega)
     have hov := overlay_set (decL W i) i (W[i]!) (by rw [decL_length]; omega)
     unfold overlay at hov
     simp only [List.length_cons,List.length_nil,Nat.zero_add] at hov
     have hdl := decL_length W i
     simp(maxSteps:=9^9)only[↓VX,VQ,ite_self,Nat.reduceEqDiff,Nat.reduceAdd,Nat.reduceSub,Nat.reduceMul,Nat.reduceLeDiff,Nat.reduceLT,Nat.reduceBEq,Int.reduceLE,Int.reduceLT,Int.reduceNeg,Int.reduceAdd,Int.reduceSub,Int.reduceToNat,↓reduceIte,reduceCtorEq,hd]
     repeat'(first|intro _|apply And.intro)
     all_goals try first|omega|(simp only[LL];omega)|exact nlC (by decide) _|exact nbC rfl
     refine ⟨i + 1,by dsimp only; omega,by dsimp only; omega,?_⟩
     (simp only [FE,↓FP,seval])
     rw [updTwice,show W[i]! + 1 - 1 = W[i]! by omega,hov,hds]
     try simp
    ·have hie : i = b.answers.length := by omega
     subst hie
     simp(maxSteps:=9^9)only[↓VX,VQ,ite_self,Nat.reduceEqDiff,Nat.reduceAdd,Nat.reduceSub,Nat.reduceMul,Nat.reduceLeDiff,Nat.reduceLT,Nat.reduceBEq,Int.reduceLE,Int.reduceLT,Int.reduceNeg,Int.reduceAdd,Int.reduceSub,Int.reduceToNat,↓reduceIte,reduceCtorEq]
     repeat'(first|intro _|apply And.intro)
     all_goals try first|omega|(simp only[LL];omega)|exact nlC (by decide) _|exact nbC rfl
     have nkl : bk ≠ l := fun e => by rw [e,j3] at k1; cases k1
     have nkb : bk ≠ bl := fun e => by
      rw [← e,if_neg nkl,k1] at hbl; cases hbl
     have hda := decL_all W
     rw [hbl2] at hda
     refine ADraw.melt bl 1 (W.map (AV.int .i64)) [] ?_ ?_ ?_
     ·show upd _ _ _ bl = _
      rw [upd_same,flat_ints,hda,List.append_nil]
     ·intro e he
      obtain ⟨q,_,rfl⟩ := List.mem_map.1 he
      exact ⟨rfl,rfl⟩
     (refine adraw (by first | exact envOk _ | exact envCOk _ _ _) mixed [⟨false,false,0⟩,⟨false,false,0⟩,⟨false,false,0⟩,⟨false,false,0⟩,⟨false,false,0⟩,⟨false,false,0⟩,⟨false,false,0⟩,⟨false,false,0⟩] (by kernel_rfl) ?_; show vcOpsD _ _ _ (_ :: _) _ _)
     simp(maxSteps:=9^9)only[↓VX,VQ,ite_self,Nat.reduceEqDiff,Nat.reduceAdd,Nat.reduceSub,Nat.reduceMul,Nat.reduceLeDiff,Nat.reduceLT,Nat.reduceBEq,Int.reduceLE,Int.reduceLT,Int.reduceNeg,Int.reduceAdd,Int.reduceSub,Int.reduceToNat,↓reduceIte,reduceCtorEq,St.melt,meltV,meltA,hcbk,nkl,nkl.symm,nkb,nkb.symm,List.length_map,hbl2]
     have hml : b.answers.length ≤ b.answers.length ∧ b.answers.length ≤ 9223372036854775807 := ⟨Nat.le_refl _,by omega⟩
     rw [if_pos hml]
     refine ⟨m,fun k y hy => ?_,rfl,rfl⟩
     have hy1 := g1 _ _ hy
     have d1 : k ≠ bl := fun e => by
      rw [← e] at hbl
      by_cases q : k = l
      ·exact ne_of_some hy1 hl0 q
      ·rw [if_neg q,j7 _ _ hy1] at hbl; cases hbl
     rw [if_neg d1,if_neg d1,if_neg (ne_of_some hy1 hl0)]
     exact j7 _ _ hy1
theorem indexW_c (b n cap : Nat) (l : List Int) (x : Int) (hn : n ≤ l.length) (hl : l.length ≤ 1000) (m : Mem) (hm : m b = some (.cells (l.map (AV.int .i64)))) :
  ACall Try.prog 29 [.mslice b 0 n cap,.int .i64 x] m fun r m' => r = .int .i64 (idxL (fun y => decide (y = x)) (l.take n)) ∧ m' = m := by
 (refine acall_intro (E := env fun _ => .imm) (envOk _) rfl Try.func29 rfl Try.call29 (by kernel_rfl) (by simp [Try.ntmps29]) ?_; simp only [Try.f29];  simp(maxSteps:=9^9)only[↓VX,VQ,seval])
 repeat'(first|intro _|apply And.intro)
 all_goals try first|omega|(simp only[LL];omega)|exact nlC (by decide) _|exact nbC rfl
 refine aloop (envOk _) (fun k : Nat => ⟨[(0,.v (.mslice b 0 n cap)),(1,.v (.int .i64 x)),(7,.v (.int .i64 n)),(8,.v (.int .i64 k))],[],[],m⟩)
  (fun k => k ≤ n ∧ ∀ y ∈ (l.take n).take k,decide (y = x) = false) (fun k => n - k) 0 (fun _ => rfl) (by simp) (by (simp only [FE,↓FP,seval]); try simp) ?_
 rintro k ⟨hk,hx⟩
 by_cases hlt : k < n
 ·have hdr := drop_ints (l := l) (k := k) (by omega)
  have hkl : k < (l.take n).length := by rw [List.length_take]; omega
  have hlk : (l.take n)[k] = l[k]! := by rw [List.getElem_take,getD_any (by omega)]
  simp(maxSteps:=9^9)only[↓VX,VQ,seval,hm,hdr]
  repeat'(first|intro _|apply And.intro)
  all_goals try first|omega|(simp only[LL];omega)|exact nlC (by decide) _|exact nbC rfl
  ·have q : x = l[k]! := by assumption
   rw [idxL_at hkl hx (by rw [hlk]; exact decide_eq_true q.symm)]
  ·have q : ¬ x = l[k]! := by assumption
   refine ⟨k + 1,⟨by omega,fun y hy => by
    rw [List.take_succ_eq_append_getElem hkl] at hy
    rcases List.mem_append.1 hy with h | h
    ·have := hx y h
     simpa using this
    ·rw [List.mem_singleton.1 h,hlk]
     exact fun e => q e.symm⟩,by dsimp only; omega,?_⟩
   (simp only [FE,↓FP,seval])
   try simp
 ·simp(maxSteps:=9^9)only[↓VX,VQ,seval,hm]
  repeat'(first|intro _|apply And.intro)
  all_goals try first|omega|(simp only[LL];omega)|exact nlC (by decide) _|exact nbC rfl
  have hkn : k = n := by omega
  subst hkn
  rw [List.take_of_length_le (by rw [List.length_take]; omega)] at hx
  rw [idxL_neg hx]
theorem eqFlatVisit (a b a' b' : Int) : EqFlat Try.prog 79 [.int .i64 a,.int .i64 b] [.int .i64 a',.int .i64 b'] (decide (a = a') && (decide (b = b') && true)) := by
 intro vs vs' com w x y h h'
 obtain ⟨v1,vs,rfl,r1,h⟩ := Reps.cons_inv h
 obtain ⟨v2,vs,rfl,r2,h⟩ := Reps.cons_inv h
 obtain rfl := Reps.nil_inv h
 obtain ⟨u1,us,rfl,s1,h'⟩ := Reps.cons_inv h'
 obtain ⟨u2,us,rfl,s2,h'⟩ := Reps.cons_inv h'
 obtain rfl := Reps.nil_inv h'
 obtain rfl := rep_int r1; obtain rfl := rep_int r2
 obtain rfl := rep_int s1; obtain rfl := rep_int s2
 have hg : Try.prog.eqGuardType Try.prog.depth 79 = false := by kernel_rfl
 have hu : Try.prog.underlying 79 = some (.struct (Try.prog.fieldsOf 79)) := by kernel_rfl
 have hs : Try.prog.stoodInHeld 79 = false := by kernel_rfl
 have key : (Op.equalIn 10000 79 (.agg #[.int .i64 a,.int .i64 b]) (.agg #[.int .i64 a',.int .i64 b'])).run Try.prog w =
   .ok (decide (a = a') && (decide (b = b') && true)) w := by
  rw [run_equalIn_agg w 9999 79 _ _ hu hs]
  simp only [Program.fieldsOf,Try.underlying79]
  exact eqStep (by decide) rfl rfl rfl (eqStep (by decide) rfl rfl rfl (by simp [Op.eqFields]))
 constructor
 ·rw [Sem.run_bind,run_eqGuard_agg w .eql 79 x y _ _ hg,Result.andThen_ok,run_eql_struct,key]; rfl
 ·rw [Sem.run_bind,run_eqGuard_agg w .neq 79 x y _ _ hg,Result.andThen_ok,run_neq_struct,key]; rfl
def idxW (w : List Int) (k : Nat) : Int := idxL (fun y => decide (y = (k : Int) + 1)) (w.map (· + 1))
def untilC (b : RBook) (w : List Int) (k : Nat) : Int := if 0 ≤ idxW w k then (b.answers[(idxW w k).toNat]!).day - b.back else 61
theorem idxW_cases (w : List Int) (k : Nat) : (idxW w k = -1 ∧ ∀ a,a < w.length → w[a]! ≠ (k : Int)) ∨ ∃ a,a < w.length ∧ idxW w k = (a : Int) ∧ w[a]! = (k : Int) := by
 rcases idxL_cases (fun y => decide (y = (k : Int) + 1)) (w.map (· + 1)) with h | ⟨a,ha,h⟩
 ·refine .inl ⟨h,fun a ha e => ?_⟩
  have hany := idxL_any (fun y => decide (y = (k : Int) + 1)) (w.map (· + 1))
  rw [h] at hany
  have : (w.map (· + 1)).any (fun y => decide (y = (k : Int) + 1)) = true := by
   rw [List.any_eq_true]
   refine ⟨w[a]! + 1,List.mem_map.2 ⟨_,by rw [getD_any ha]; exact List.getElem_mem ha,rfl⟩,?_⟩
   rw [e]; exact decide_eq_true rfl
  rw [this] at hany
  exact absurd hany (by decide)
 ·rw [List.length_map] at ha
  refine .inr ⟨a,ha,h,?_⟩
  have key : ∀ (p : Int → Bool) (l : List Int) (a : Nat) (ha : a < l.length),idxL p l = (a : Int) → p l[a] = true := by
   intro p l
   induction l with
   | nil => intro a ha; cases ha
   | cons x l ih =>
    intro a ha e
    unfold idxL at e
    by_cases q : p x = true
    ·rw [if_pos q] at e
     have : a = 0 := by omega
     subst this
     exact q
    ·rw [if_neg q] at e
     split at e
     ·omega
     ·rename_i h2
      match a,ha with
      | 0,_ => omega
      | a + 1,ha => exact ih a (by simpa using ha) (by omega)
  have := key _ _ a (by rw [List.length_map]; exact ha) h
  rw [List.getElem_map,decide_eq_true_eq] at this
  rw [getD_any ha]; omega
theorem fine_until {b : RBook} (hb : BOk b) {t : RTru} {w : List Int} (hw : w ∈ waysR b t) {k : Nat} {d : Int} (hd : -1 ≤ d ∧ d ≤ 43) : fineB b w k d = decide (visD d ≤ untilC b w k) := by
 have hl := (mem_waysR.1 hw).1
 unfold fineB untilC
 rcases idxW_cases w k with ⟨h1,h2⟩ | ⟨a,ha,h1,h2⟩
 ·rw [h1,if_neg (by decide)]
  have key : ∀ n,n ≤ w.length → fineTo b w k d n = true := by
   intro n
   induction n with
   | zero => intro _; rfl
   | succ n ih =>
    intro hn
    unfold fineTo
    rw [if_neg (h2 n (by omega))]
    exact ih (by omega)
  rw [key _ (by omega),decide_eq_true]
  unfold visD
  split <;> omega
 ·have hans := (hb.ans a (by omega)).2.2
  have hbk := hb.back
  rw [h1,if_pos (by omega),Int.toNat_natCast,visD_le (by omega)]
  have hone : ∀ j,j < w.length → w[j]! = (k : Int) → j = a := fun j hj e => ways_once hw hj ha (by rw [e,h2]) (by rw [e]; omega)
  have key : ∀ n,a < n → n ≤ w.length → fineTo b w k d n = untilB d ((b.answers[a]!).day - b.back) := by
   intro n
   induction n with
   | zero => intro h; omega
   | succ n ih =>
    intro h1 h3
    unfold fineTo
    by_cases q : w[n]! = (k : Int)
    ·rw [if_pos q,hone n (by omega) q]
    ·rw [if_neg q]
     have : n ≠ a := fun e => q (by rw [e]; exact h2)
     exact ih (by omega) (by omega)
  exact key _ (by omega) (by omega)
def camL (b : RBook) (k : Nat) (L : List (RTru × List Int)) : RCam := L.foldl (fun s x => camIn b x.2 k s (rowE b.harb k x.1) (rowE b.harb k x.1).length) ⟨0,0,0,0⟩
theorem camL_snoc (b : RBook) (k : Nat) (L : List (RTru × List Int)) (x : RTru × List Int) : camL b k (L ++ [x]) = camIn b x.2 k (camL b k L) (rowE b.harb k x.1) (rowE b.harb k x.1).length := by
 unfold camL; rw [List.foldl_append]; rfl
theorem camL_all (b : RBook) (k : Nat) (F : List (RTru × List Int)) : camTo b F k F.length = camL b k F := by
 unfold camTo camL; rw [List.take_length]
theorem camL_le (b : RBook) (k : Nat) (L : List (RTru × List Int)) : 0 ≤ (camL b k L).yes ∧ (camL b k L).yes ≤ (camL b k L).all := by
 have key : ∀ (L : List (RTru × List Int)) (s : RCam),0 ≤ s.yes ∧ s.yes ≤ s.all → 0 ≤ (L.foldl (fun s x => camIn b x.2 k s (rowE b.harb k x.1) (rowE b.harb k x.1).length) s).yes ∧ (L.foldl (fun s x => camIn b x.2 k s (rowE b.harb k x.1) (rowE b.harb k x.1).length) s).yes ≤ (L.foldl (fun s x => camIn b x.2 k s (rowE b.harb k x.1) (rowE b.harb k x.1).length) s).all := by
  intro L
  induction L with
  | nil => intro s h; exact h
  | cons x L ih =>
   intro s h
   rw [List.foldl_cons]
   have := camIn_le (b := b) (w := x.2) (k := k) (s := s) (l := rowE b.harb k x.1) (c := s.all) ⟨h.1,h.2,Int.le_refl _⟩ (rowE b.harb k x.1).length
   exact ih _ ⟨this.1,this.2.1⟩
 exact key L _ ⟨Int.le_refl _,Int.le_refl _⟩
theorem vis_row {h : RHarb} (hh : HOk h) {t : RTru} (ht : TOk h t) {k : Nat} (hk : k < h.letters.length) : (visL h t k).length = (rowE h k t).length ∧ ∀ j,j < (rowE h k t).length → (-1 ≤ (rowE h k t)[j]! ∧ (rowE h k t)[j]! ≤ 43) ∧ ((visL h t k)[j]!).2 = visD ((rowE h k t)[j]!) := by
 refine ⟨by unfold visL rowE; simp,fun j hj => ?_⟩
 have hj2 : j < (t.by_[k]!).length := by rw [rowE_length] at hj; exact hj
 have hv : j < (visL h t k).length := by unfold visL; simpa using hj2
 have hs := ht.ship k hk _ (List.getElem_mem hj2)
 have e1 : (rowE h k t)[j]! = dayR h t.fleet ((t.by_[k]!)[j]).toNat (h.letters[k]!).port := by
  rw [getD_any hj]
  simp only [rowE,List.getElem_map]
 have e2 : (visL h t k)[j]! = ((t.by_[k]!)[j],visD (dayR h t.fleet ((t.by_[k]!)[j]).toNat (h.letters[k]!).port)) := by
  rw [getD_any hv]
  simp only [visL,List.getElem_map]
 rw [e1,e2]
 exact ⟨dayR_le hh ht.fok hs.2 _,rfl⟩
theorem came_top (b : RBook) (hs : hnamesFit b.harb) (letter : Int) : PCall Try.prog 10 [bookA b,.int .i64 letter] (.tuple [.agg [.int .i64 (cameR b letter).1.lo,.int .i64 (cameR b letter).1.hi],.int .i64 (cameR b letter).2.1,.int .i64 (cameR b letter).2.2]) := by
 intro m
 refine ACall.forget ?_
 have hen := fun m => renter_c b hs [(letter,b.words.length)] (fun q => ⟨by simp,fun j hj => by
  have : j = 0 := by simp at hj; omega
  subst this
  have hb := bok_check q
  have h1 := hb.w
  have h2 := hb.h.nl
  show (0 : Int) ≤ b.words.length ∧ (b.words.length : Int) ≤ 1000
  omega⟩) m
 have e0 : cameR b letter = if indexB b letter b.harb.letters.length = 0 then (camTo b (fairR b) letter.toNat (fairR b).length,settledR (camTo b (fairR b) letter.toNat (fairR b).length).yes (camTo b (fairR b) letter.toNat (fairR b).length).all,0) else (⟨0,0,0,0⟩,0,indexB b letter b.harb.letters.length) := rfl
 have hie : indexB b letter b.harb.letters.length = renterE b [(letter,b.words.length)] := by
  rw [← index_enter]
  unfold indexB
  by_cases q : (checkB b).2.2 = 0
  ·rw [(bok_check q).w]
  ·rw [if_neg q,if_neg q]
 rw [hie,camL_all] at e0
 have hpl : pairsL [(letter,(b.words.length : Int))] = [letter,(b.words.length : Int)] := rfl
 rw [hpl] at hen
 have hfF := fun bk => fairF_c bk
 have hf1 := fun (hb : BOk b) (bk : Nat) (m : Mem) (h : Looked b (.slice 3 (b.answers.map ansA)) bk m) (l : Nat) (J : List (RTru × List Int) → Mem → Prop) (hy : FYok b m l J) (m1 : Mem) (hJ : J [] m1) => fair1_c b hb _ bk m h l J hy m1 hJ
 have hfr := fun (hb : BOk b) (x : RTru × List Int) (hx : x ∈ fairR b) => fair_range hb hx
 have hclk := fun k => camL_le b k
 have hcs := fun k => camL_snoc b k
 simp only [bookA,bookL,harbA,harbL,ints,List.cons_append,List.nil_append,List.map_cons,List.map_nil] at hen ⊢
 (refine acall_intro (E := envC (modeAt [15] [4,8,9,11]) false []) (envCOk _ _ _) rfl Try.func10 rfl Try.call10 (by kernel_rfl) (by simp [Try.ntmps10]) ?_; simp only [Try.f10];  simp(maxSteps:=9^9)only[↓VX,VQ,seval,Int.reduceEq])
 intro b4 hb4
 repeat'(first|intro _|apply And.intro)
 all_goals try first|omega|(simp only[LL];omega)|exact nlC (by decide) _|exact nbC rfl
 refine ACall.told (ACall.frame hb4 (hen m)) ?_
 rintro r m1x ⟨m1,⟨z1,rfl,rfl⟩ | ⟨z1,hb,z2,bk,rfl,g1,g2⟩,hn4,rfl⟩
 ·rw [if_neg z1] at e0
  rw [e0]
  generalize renterE b [(letter,(b.words.length : Int))] = E at *
  simp(maxSteps:=9^9)only[↓VX,VQ,seval]
  repeat'(first|intro _|apply And.intro)
  all_goals try first|omega|(simp only[LL];omega)|exact nlC (by decide) _|exact nbC rfl
  refine ⟨m1,fun k y hy => ?_,rfl⟩
  have := ne_of_some hy hb4
  simp only [if_neg this]
  exact hy
 ·rw [if_pos z1] at e0
  have z3 := z2 _ (List.mem_singleton.2 rfl)
  dsimp only at z3
  have hna := hb.n
  have hw := hb.w
  have hnl := hb.h.nl
  obtain ⟨k,rfl⟩ : ∃ k : Nat,letter = (k : Int) := ⟨letter.toNat,by omega⟩
  rw [Int.toNat_natCast] at e0
  have hk : k < b.harb.letters.length := by omega
  rw [e0]
  clear e0 hen hie hpl
  have hfr1 := hfr hb
  have hf2 := hf1 hb bk m1 g2
  have hcl1 := hclk k
  have hcs1 := hcs k
  simp(maxSteps:=9^9)only[↓VX,VQ,seval,z1]
  repeat'(first|intro _|apply And.intro)
  all_goals try first|omega|(simp only[LL];omega)|exact nlC (by decide) _|exact nbC rfl
  rename_i b8 hb8 b9 hb9
  have n84 : b8 ≠ b4 := by rintro rfl; simp at hb8
  have hb80 : m1 b8 = none := by simpa [n84] using hb8
  have n98 : b9 ≠ b8 := by rintro rfl; simp at hb9
  have n94 : b9 ≠ b4 := by rintro rfl; simp [n84.symm] at hb9
  have hb90 : m1 b9 = none := by simpa [n98,n94] using hb9
  (refine ACall.pure (hfF bk) ?_; try simp(maxSteps:=9^9)only[↓VX,VQ,seval])
  refine arange rfl (f := 38) (first := []) (caps := [.eptr [.ptr bk 0]]) (by simp(maxSteps:=9^9)only[↓VX,VQ,seval]) ?_
  intro l hl
  have nl9 : l ≠ b9 := by rintro rfl; simp [upd] at hl
  have nl8 : l ≠ b8 := by rintro rfl; simp [upd,n98.symm] at hl
  have nl4 : l ≠ b4 := by rintro rfl; simp [upd,n94.symm,n84.symm] at hl
  have hl0 : m1 l = none := by simpa [upd,nl8,nl9,nl4] using hl
  generalize hV : (fun (i : Nat) => SV.av (St.vals _ i)) = V
  have v2 : V 2 = .eptr [.int .i64 b.harb.ports,.int .i64 b.harb.lost,.slice 5 (b.harb.ships.map shipA),.slice 3 (b.harb.letters.map letA),.slice 4 (b.harb.reports.map repA),.slice 1 (b.words.map (AV.int .i64)),.int .i64 b.back,.slice 3 (b.answers.map ansA)] := by
   rw [← hV]; rfl
  have v3 : V 3 = .eptr [.int .i64 k] := by rw [← hV]; rfl
  have v4 : V 4 = .ptr b4 0 := by rw [← hV]; rfl
  have v8 : V 8 = .ptr b8 0 := by rw [← hV]; rfl
  have v9 : V 9 = .ptr b9 0 := by rw [← hV]; rfl
  clear hV
  generalize hR : LoopA.mk _ _ _ _ _ = R
  have hyok : FYok b m1 l (fun pre m2 => m2 l = some (.loop .ready none R) ∧ m2 b4 = some (.cells [.int .i64 (camL b k pre).lo,.int .i64 (camL b k pre).hi]) ∧ m2 b8 = some (.cells [.bool (decide (0 < (camL b k pre).yes))]) ∧ m2 b9 = some (.cells [.bool (decide ((camL b k pre).yes < (camL b k pre).all))]) ∧ ∀ q y,m1 q = some y → m2 q = some y) := by
   refine ⟨fun pre m2 hJ => hJ.2.2.2.2,fun pre x m2 hpl hx hJ => ?_⟩
   obtain ⟨j3,j4,j8,j9,j7⟩ := hJ
   have j3' := j3
   rw [← hR] at j3
   refine ayield (E := envC (modeAt [15] [4,8,9,11]) true []) (envCOk _ _ _) rfl j3 rfl (by rfl) (by rfl) (by rfl) ?_
   obtain ⟨f1,f2,f3⟩ := fair_mem.1 hx
   obtain ⟨hx1,hx2⟩ := hfr1 x hx
   have htk := truths_tok hb.h (but := []) f1
   have hfu := fun (d : Int) (q : -1 ≤ d ∧ d ≤ 43) => fine_until hb f2 (k := k) q
   have hcs2 := hcs1 pre x
   have hcl2 := hcl1 pre
   have hidx := idxW_cases x.2 k
   have hun : untilC b x.2 k = if 0 ≤ idxW x.2 k then (b.answers[(idxW x.2 k).toNat]!).day - b.back else 61 := rfl
   have hfl3 := ownE_flat x.2
   have hln3 := ownE_mlen x.2
   have htk3 := ownE_take x.2
   have hiw := fun (bo : Nat) (m : Mem) => indexW_c bo b.answers.length 3 (ownE x.2) ((k : Int) + 1) (by rw [ownE_length]; omega) (by rw [ownE_length]; omega) m
   have hiw2 : idxL (fun y => decide (y = (k : Int) + 1)) ((ownE x.2).take b.answers.length) = idxW x.2 k := by rw [← hx1,ownE_takeW (by omega)]; rfl
   rw [hiw2] at hiw
   have hans := hb.ans
   have hbk := hb.back
   generalize idxW x.2 k = IW at *
   simp only [fateFA,ownA] at *
   simp(maxSteps:=9^9)only[↓VX,VQ,seval,j3,nl8,nl8.symm,nl9,nl9.symm,nl4,nl4.symm,hfl3,hln3,htk3,List.drop_zero]
   intro bo hbo
   have nol : l ≠ bo := fun e => by rw [← e,j3] at hbo; cases hbo
   have no4 : b4 ≠ bo := fun e => by rw [← e,j4] at hbo; cases hbo
   have no8 : b8 ≠ bo := fun e => by rw [← e,j8] at hbo; cases hbo
   have no9 : b9 ≠ bo := fun e => by rw [← e,j9] at hbo; cases hbo
   have hd3 : List.drop 3 [AV.int .i64 0,AV.int .i64 0,AV.int .i64 0] = [] := rfl
   simp(maxSteps:=9^9)only[↓VX,VQ,seval,j3,nl8,nl8.symm,nl9,nl9.symm,nl4,nl4.symm,hfl3,hln3,htk3,List.drop_zero,nol,nol.symm,hd3,List.append_nil]
   repeat'(first|intro _|apply And.intro)
   all_goals try first|omega|(simp only[LL];omega)|exact nlC (by decide) _|exact nbC rfl
   have hvr := vis_row hb.h htk hk
   have hfat := fateF_at b.harb x.1 hk
   have hfln := fateF_length b.harb x.1
   (refine adraw (by first | exact envOk _ | exact envCOk _ _ _) mixed [⟨false,false,0⟩,⟨false,false,0⟩,⟨false,false,0⟩,⟨false,false,0⟩,⟨false,false,0⟩,⟨false,false,0⟩,⟨false,false,0⟩,⟨false,false,0⟩] (by kernel_rfl) ?_; show vcOpsD _ _ _ (_ :: _) _ _)
   simp(maxSteps:=9^9)only[↓VX,VQ,seval,v2,v3]
   repeat'(first|intro _|apply And.intro)
   all_goals try first|omega|(simp only[LL];omega)|exact nlC (by decide) _|exact nbC rfl
   refine VPure.at (hiw bo _ (by simp [upd,nol.symm])) ?_
   rw [hR]
   generalize hMg : upd (upd (upd m2 bo _) bo _) l _ = M0
   have hM0l : M0 l = some (.loop .busy none R) := by rw [← hMg,upd_same]
   have hM0 : ∀ q,q ≠ l → q ≠ bo → M0 q = m2 q := fun q h1 h2 => by rw [← hMg,upd_ne _ _ h1,upd_ne _ _ h2,upd_ne _ _ h2]
   clear hMg j3
   generalize untilC b x.2 k = UC at *
   have hm4 : M0 b4 = some (.cells [.int .i64 (camL b k pre).lo,.int .i64 (camL b k pre).hi]) := by rw [hM0 _ nl4.symm no4]; exact j4
   have hm8 : M0 b8 = some (.cells [.bool (decide (0 < (camL b k pre).yes))]) := by rw [hM0 _ nl8.symm no8]; exact j8
   have hm9 : M0 b9 = some (.cells [.bool (decide ((camL b k pre).yes < (camL b k pre).all))]) := by rw [hM0 _ nl9.symm no9]; exact j9
   have hm1 : ∀ q y,m1 q = some y → M0 q = some y := fun q y hy => by
    have d2 : q ≠ bo := fun e => by rw [e] at hy; rw [j7 _ _ hy] at hbo; cases hbo
    rw [hM0 _ (ne_of_some hy hl0) d2]; exact j7 _ _ hy
   clear hM0 j4 j8 j9 j3' hbo no4 no8 no9 nol hiw hiw2
   have hci := fun (j : Nat) => camIn_succ (b := b) (w := x.2) (k := k) (s := camL b k pre) (l := rowE b.harb k x.1) (n := j)
   have hcl3 := camIn_le (b := b) (w := x.2) (k := k) (s := camL b k pre) (l := rowE b.harb k x.1) (c := (camL b k pre).all) ⟨hcl2.1,hcl2.2,Int.le_refl _⟩
   have hci0 : camIn b x.2 k (camL b k pre) (rowE b.harb k x.1) 0 = camL b k pre := rfl
   have hcam : ∀ s d,camStep s d = if d < 0 then { s with all := s.all + 1 } else if s.yes = 0 then ⟨d,d,1,s.all + 1⟩ else ⟨min s.lo d,max s.hi d,s.yes + 1,s.all + 1⟩ := fun _ _ => rfl
   have hvd : ∀ d,visD d = if d < 0 then 61 else d := fun _ => rfl
   generalize rowE b.harb k x.1 = D at *
   rw [← hci0] at hm4 hm8 hm9
   generalize visL b.harb x.1 k = VL at *
   obtain ⟨hvl,hvr⟩ := hvr
   generalize camL b k pre = S0 at *
   rcases hidx with ⟨rfl,h2⟩ | ⟨a,ha,rfl,h2⟩
   ·rw [if_neg (by decide)] at hun
    simp(maxSteps:=9^9)only[↓VX,VQ,seval,v2,v3,v4,v8,v9,↓ixVisL,hfat]
    repeat'(first|intro _|apply And.intro)
    all_goals try first|omega|(simp only[LL];omega)|exact nlC (by decide) _|exact nbC rfl
    refine aloop (envCOk _ _ _) (fun x : Nat × Mem => ⟨[(4,.v (.ptr b4 0)),(8,.v (.ptr b8 0)),(9,.v (.ptr b9 0)),(12,.v (.int .i64 UC)),(55,.v (.slice 2 (VL.map visA))),(56,.v (.int .i64 VL.length)),(57,.v (.int .i64 x.1))],[],[],x.2⟩)
     (fun y => y.1 ≤ D.length ∧ y.2 l = some (.loop .busy none R) ∧ y.2 b4 = some (.cells [.int .i64 (camIn b x.2 k S0 D y.1).lo,.int .i64 (camIn b x.2 k S0 D y.1).hi]) ∧ y.2 b8 = some (.cells [.bool (decide (0 < (camIn b x.2 k S0 D y.1).yes))]) ∧ y.2 b9 = some (.cells [.bool (decide ((camIn b x.2 k S0 D y.1).yes < (camIn b x.2 k S0 D y.1).all))]) ∧ ∀ q z,m1 q = some z → y.2 q = some z)
     (fun y => D.length - y.1) (0,M0) (fun _ => rfl) ⟨Nat.zero_le _,hM0l,hm4,hm8,hm9,hm1⟩ (by (simp only [FE,↓FP,seval]); try simp [v2,v3,v4,v8,v9,hun,-List.getElem!_eq_getElem?_getD]) ?_
    rintro ⟨j,mj⟩ ⟨hj,w1,w4,w8,w9,w7⟩
    dsimp only at hj w1 w4 w8 w9 w7
    clear hm4 hm8 hm9 hm1 hM0l
    have hci1 := hci j
    have hcl4 := hcl3 j
    by_cases hjl : j < D.length
    ·obtain ⟨hdr,hvj⟩ := hvr j hjl
     have hci2 := hci1 hjl
     rw [hfu _ hdr,hcam] at hci2
     generalize camIn b x.2 k S0 D j = SJ at *
     generalize hSN : camIn b x.2 k S0 D (j + 1) = SN at *
     have hvd1 := hvd (D[j]!)
     generalize D[j]! = d at *
     have heqc : ∀ a : Int,eqCells [AV.int .i64 a,AV.int .i64 (visD d)] [AV.int .i64 a,AV.int .i64 61] = some (decide (visD d = 61)) := fun a => by simp [eqCells]
     have hefl : ∀ a : Int,EqFlat Try.prog 79 [.int .i64 a,.int .i64 (visD d)] [.int .i64 a,.int .i64 61] (decide (visD d = 61)) := fun a => by
      have := eqFlatVisit a (visD d) a 61
      simpa only [decide_true,Bool.true_and,Bool.and_true] using this
     by_cases hu : visD d ≤ UC
     ·rw [decide_eq_true hu,if_pos rfl] at hci2
      have huT : (UC < visD d) = False := eq_false (by omega)
      by_cases hd0 : d < 0
      ·rw [if_pos hd0] at hci2 hvd1
       rw [hvd1] at heqc hefl hvj huT
       have hl9 : decide (SN.yes < SN.all) = true := by rw [hci2]; exact decide_eq_true (by dsimp only; omega)
       have e1 : SN.lo = SJ.lo ∧ SN.hi = SJ.hi ∧ SN.yes = SJ.yes := by rw [hci2]; exact ⟨rfl,rfl,rfl⟩
       have hefl' : ∀ a : Int,EqFlat Try.prog 79 [.int .i64 a,.int .i64 61] [.int .i64 a,.int .i64 61] true := hefl
       simp(maxSteps:=9^9)only[↓VX,VQ,seval,↓ixVis,hvj,huT,buildV,heqc,decide_true,w9]
       refine ⟨fun _ => ⟨⟨by omega,by omega⟩,hefl' _,⟨by omega,by omega⟩,?_⟩,fun h => absurd h (by omega)⟩
       refine ⟨(j + 1,upd mj b9 (some (.cells [.bool true]))),⟨by dsimp only; omega,?_,?_,?_,?_,?_⟩,by dsimp only; omega,?_⟩
       ·dsimp only; rw [upd_ne _ _ nl9]; exact w1
       ·dsimp only; rw [upd_ne _ _ n94.symm,hSN,e1.1,e1.2.1]; exact w4
       ·dsimp only; rw [upd_ne _ _ n98.symm,hSN,e1.2.2]; exact w8
       ·dsimp only; rw [upd_same,hSN,hl9]
       ·intro q z hz
        dsimp only
        rw [upd_ne _ _ (ne_of_some hz hb90)]
        exact w7 _ _ hz
       ·(simp only [FE,↓FP,seval])
        try simp
      ·rw [if_neg hd0] at hci2 hvd1
       rw [hvd1] at heqc hefl hvj huT
       have hd61 : decide (d = 61) = false := decide_eq_false (by omega)
       rw [hd61] at hefl
       simp only [hd61] at heqc
       by_cases hy0 : SJ.yes = 0
       ·rw [if_pos hy0] at hci2
        have hY : decide (0 < SJ.yes) = false := decide_eq_false (by omega)
        rw [hY] at w8
        have hY1 : decide (0 < SN.yes) = true := by rw [hci2]; rfl
        have hA1 : decide (SN.yes < SN.all) = decide (SJ.yes < SJ.all) := by rw [hci2,decide_eq_decide]; dsimp only; omega
        simp(maxSteps:=9^9)only[↓VX,VQ,seval,↓ixVis,hvj,huT,buildV,heqc,w8,w4,n84,n84.symm]
        refine ⟨fun _ => ⟨⟨by omega,by omega⟩,hefl _,⟨by omega,by omega⟩,?_⟩,fun h => absurd h (by omega)⟩
        refine ⟨(j + 1,upd (upd mj b4 (some (.cells [.int .i64 d,.int .i64 d]))) b8 (some (.cells [.bool true]))),⟨by dsimp only; omega,?_,?_,?_,?_,?_⟩,by dsimp only; omega,?_⟩
        ·dsimp only; rw [upd_ne _ _ nl8,upd_ne _ _ nl4]; exact w1
        ·dsimp only; rw [upd_ne _ _ n84.symm,upd_same,hSN,hci2]
        ·dsimp only; rw [upd_same,hSN,hY1]
        ·dsimp only; rw [upd_ne _ _ n98,upd_ne _ _ n94,hSN,hA1]; exact w9
        ·intro q z hz
         dsimp only
         rw [upd_ne _ _ (ne_of_some hz hb80),upd_ne _ _ (ne_of_some hz hn4)]
         exact w7 _ _ hz
        ·(simp only [FE,↓FP,seval])
         try simp
       ·rw [if_neg hy0] at hci2
        have hY : decide (0 < SJ.yes) = true := decide_eq_true (by omega)
        rw [hY] at w8
        have hY1 : decide (0 < SN.yes) = true := by rw [hci2]; exact decide_eq_true (by dsimp only; omega)
        have hA1 : decide (SN.yes < SN.all) = decide (SJ.yes < SJ.all) := by rw [hci2,decide_eq_decide]; dsimp only; omega
        simp(maxSteps:=9^9)only[↓VX,VQ,seval,↓ixVis,hvj,huT,buildV,heqc,w8,w4]
        refine ⟨fun _ => ⟨⟨by omega,by omega⟩,hefl _,⟨by omega,by omega⟩,?_⟩,fun h => absurd h (by omega)⟩
        refine ⟨(j + 1,upd mj b4 (some (.cells [.int .i64 (min SJ.lo d),.int .i64 (max SJ.hi d)]))),⟨by dsimp only; omega,?_,?_,?_,?_,?_⟩,by dsimp only; omega,?_⟩
        ·dsimp only; rw [upd_ne _ _ nl4]; exact w1
        ·dsimp only; rw [upd_same,hSN,hci2]
        ·dsimp only; rw [upd_ne _ _ n84,hSN,hY1]; exact w8
        ·dsimp only; rw [upd_ne _ _ n94,hSN,hA1]; exact w9
        ·intro q z hz
         dsimp only
         rw [upd_ne _ _ (ne_of_some hz hn4)]
         exact w7 _ _ hz
        ·(simp only [FE,↓FP,seval])
         try simp
     ·rw [decide_eq_false hu,if_neg (by decide)] at hci2
      have huT : (UC < visD d) = True := eq_true (by omega)
      simp(maxSteps:=9^9)only[↓VX,VQ,seval,↓ixVis,hvj,huT]
      repeat'(first|intro _|apply And.intro)
      all_goals try first|omega|(simp only[LL];omega)|exact nlC (by decide) _|exact nbC rfl
      all_goals
       refine ⟨(j + 1,mj),⟨by dsimp only; omega,w1,by dsimp only; rw [hSN,hci2]; exact w4,by dsimp only; rw [hSN,hci2]; exact w8,by dsimp only; rw [hSN,hci2]; exact w9,w7⟩,by dsimp only; omega,?_⟩
       (simp only [FE,↓FP,seval])
       all_goals try simp
    ·have hje : j = D.length := by omega
     subst hje
     simp(maxSteps:=9^9)only[↓VX,VQ,seval,hvl,w1]
     repeat'(first|intro _|apply And.intro)
     all_goals try first|omega|(simp only[LL];omega)|exact nlC (by decide) _|exact nbC rfl
     ·rw [if_neg nl4.symm,hcs2]; exact w4
     ·rw [if_neg nl8.symm,hcs2]; exact w8
     ·rw [if_neg nl9.symm,hcs2]; exact w9
     ·rename_i q y hq
      rw [if_neg (ne_of_some hq hl0)]; exact w7 _ _ hq
   ·rw [if_pos (by omega),Int.toNat_natCast] at hun
    have han := (hans a (by omega)).2.2
    simp(maxSteps:=9^9)only[↓VX,VQ,seval,v2,v3,v4,v8,v9,↓ixVisL,hfat]
    repeat'(first|intro _|apply And.intro)
    all_goals try first|omega|(simp only[LL];omega)|exact nlC (by decide) _|exact nbC rfl
    (refine adraw (by first | exact envOk _ | exact envCOk _ _ _) mixed [⟨false,false,0⟩,⟨false,false,0⟩,⟨false,false,0⟩,⟨false,false,0⟩,⟨false,false,0⟩,⟨false,false,0⟩,⟨false,false,0⟩,⟨false,false,0⟩,⟨false,false,0⟩,⟨false,false,0⟩] (by kernel_rfl) ?_; show vcOpsD _ _ _ (_ :: _) _ _)
    simp(maxSteps:=9^9)only[↓VX,VQ,seval,v2,v3,v4,v8,v9,↓ixVisL,↓ixAns,hfat]
    repeat'(first|intro _|apply And.intro)
    all_goals try first|omega|(simp only[LL];omega)|exact nlC (by decide) _|exact nbC rfl
    refine aloop (envCOk _ _ _) (fun x : Nat × Mem => ⟨[(4,.v (.ptr b4 0)),(8,.v (.ptr b8 0)),(9,.v (.ptr b9 0)),(12,.v (.int .i64 UC)),(55,.v (.slice 2 (VL.map visA))),(56,.v (.int .i64 VL.length)),(57,.v (.int .i64 x.1))],[],[],x.2⟩)
     (fun y => y.1 ≤ D.length ∧ y.2 l = some (.loop .busy none R) ∧ y.2 b4 = some (.cells [.int .i64 (camIn b x.2 k S0 D y.1).lo,.int .i64 (camIn b x.2 k S0 D y.1).hi]) ∧ y.2 b8 = some (.cells [.bool (decide (0 < (camIn b x.2 k S0 D y.1).yes))]) ∧ y.2 b9 = some (.cells [.bool (decide ((camIn b x.2 k S0 D y.1).yes < (camIn b x.2 k S0 D y.1).all))]) ∧ ∀ q z,m1 q = some z → y.2 q = some z)
     (fun y => D.length - y.1) (0,M0) (fun _ => rfl) ⟨Nat.zero_le _,hM0l,hm4,hm8,hm9,hm1⟩ (by (simp only [FE,↓FP,seval]); try simp [v2,v3,v4,v8,v9,hun,-List.getElem!_eq_getElem?_getD]) ?_
    rintro ⟨j,mj⟩ ⟨hj,w1,w4,w8,w9,w7⟩
    dsimp only at hj w1 w4 w8 w9 w7
    clear hm4 hm8 hm9 hm1 hM0l
    have hci1 := hci j
    have hcl4 := hcl3 j
    by_cases hjl : j < D.length
    ·obtain ⟨hdr,hvj⟩ := hvr j hjl
     have hci2 := hci1 hjl
     rw [hfu _ hdr,hcam] at hci2
     generalize camIn b x.2 k S0 D j = SJ at *
     generalize hSN : camIn b x.2 k S0 D (j + 1) = SN at *
     have hvd1 := hvd (D[j]!)
     generalize D[j]! = d at *
     have heqc : ∀ a : Int,eqCells [AV.int .i64 a,AV.int .i64 (visD d)] [AV.int .i64 a,AV.int .i64 61] = some (decide (visD d = 61)) := fun a => by simp [eqCells]
     have hefl : ∀ a : Int,EqFlat Try.prog 79 [.int .i64 a,.int .i64 (visD d)] [.int .i64 a,.int .i64 61] (decide (visD d = 61)) := fun a => by
      have := eqFlatVisit a (visD d) a 61
      simpa only [decide_true,Bool.true_and,Bool.and_true] using this
     by_cases hu : visD d ≤ UC
     ·rw [decide_eq_true hu,if_pos rfl] at hci2
      have huT : (UC < visD d) = False := eq_false (by omega)
      by_cases hd0 : d < 0
      ·rw [if_pos hd0] at hci2 hvd1
       rw [hvd1] at heqc hefl hvj huT
       have hl9 : decide (SN.yes < SN.all) = true := by rw [hci2]; exact decide_eq_true (by dsimp only; omega)
       have e1 : SN.lo = SJ.lo ∧ SN.hi = SJ.hi ∧ SN.yes = SJ.yes := by rw [hci2]; exact ⟨rfl,rfl,rfl⟩
       have hefl' : ∀ a : Int,EqFlat Try.prog 79 [.int .i64 a,.int .i64 61] [.int .i64 a,.int .i64 61] true := hefl
       simp(maxSteps:=9^9)only[↓VX,VQ,seval,↓ixVis,hvj,huT,buildV,heqc,decide_true,w9]
       refine ⟨fun _ => ⟨⟨by omega,by omega⟩,hefl' _,⟨by omega,by omega⟩,?_⟩,fun h => absurd h (by omega)⟩
       refine ⟨(j + 1,upd mj b9 (some (.cells [.bool true]))),⟨by dsimp only; omega,?_,?_,?_,?_,?_⟩,by dsimp only; omega,?_⟩
       ·dsimp only; rw [upd_ne _ _ nl9]; exact w1
       ·dsimp only; rw [upd_ne _ _ n94.symm,hSN,e1.1,e1.2.1]; exact w4
       ·dsimp only; rw [upd_ne _ _ n98.symm,hSN,e1.2.2]; exact w8
       ·dsimp only; rw [upd_same,hSN,hl9]
       ·intro q z hz
        dsimp only
        rw [upd_ne _ _ (ne_of_some hz hb90)]
        exact w7 _ _ hz
       ·(simp only [FE,↓FP,seval])
        try simp
      ·rw [if_neg hd0] at hci2 hvd1
       rw [hvd1] at heqc hefl hvj huT
       have hd61 : decide (d = 61) = false := decide_eq_false (by omega)
       rw [hd61] at hefl
       simp only [hd61] at heqc
       by_cases hy0 : SJ.yes = 0
       ·rw [if_pos hy0] at hci2
        have hY : decide (0 < SJ.yes) = false := decide_eq_false (by omega)
        rw [hY] at w8
        have hY1 : decide (0 < SN.yes) = true := by rw [hci2]; rfl
        have hA1 : decide (SN.yes < SN.all) = decide (SJ.yes < SJ.all) := by rw [hci2,decide_eq_decide]; dsimp only; omega
        simp(maxSteps:=9^9)only[↓VX,VQ,seval,↓ixVis,hvj,huT,buildV,heqc,w8,w4,n84,n84.symm]
        refine ⟨fun _ => ⟨⟨by omega,by omega⟩,hefl _,⟨by omega,by omega⟩,?_⟩,fun h => absurd h (by omega)⟩
        refine ⟨(j + 1,upd (upd mj b4 (some (.cells [.int .i64 d,.int .i64 d]))) b8 (some (.cells [.bool true]))),⟨by dsimp only; omega,?_,?_,?_,?_,?_⟩,by dsimp only; omega,?_⟩
        ·dsimp only; rw [upd_ne _ _ nl8,upd_ne _ _ nl4]; exact w1
        ·dsimp only; rw [upd_ne _ _ n84.symm,upd_same,hSN,hci2]
        ·dsimp only; rw [upd_same,hSN,hY1]
        ·dsimp only; rw [upd_ne _ _ n98,upd_ne _ _ n94,hSN,hA1]; exact w9
        ·intro q z hz
         dsimp only
         rw [upd_ne _ _ (ne_of_some hz hb80),upd_ne _ _ (ne_of_some hz hn4)]
         exact w7 _ _ hz
        ·(simp only [FE,↓FP,seval])
         try simp
       ·rw [if_neg hy0] at hci2
        have hY : decide (0 < SJ.yes) = true := decide_eq_true (by omega)
        rw [hY] at w8
        have hY1 : decide (0 < SN.yes) = true := by rw [hci2]; exact decide_eq_true (by dsimp only; omega)
        have hA1 : decide (SN.yes < SN.all) = decide (SJ.yes < SJ.all) := by rw [hci2,decide_eq_decide]; dsimp only; omega
        simp(maxSteps:=9^9)only[↓VX,VQ,seval,↓ixVis,hvj,huT,buildV,heqc,w8,w4]
        refine ⟨fun _ => ⟨⟨by omega,by omega⟩,hefl _,⟨by omega,by omega⟩,?_⟩,fun h => absurd h (by omega)⟩
        refine ⟨(j + 1,upd mj b4 (some (.cells [.int .i64 (min SJ.lo d),.int .i64 (max SJ.hi d)]))),⟨by dsimp only; omega,?_,?_,?_,?_,?_⟩,by dsimp only; omega,?_⟩
        ·dsimp only; rw [upd_ne _ _ nl4]; exact w1
        ·dsimp only; rw [upd_same,hSN,hci2]
        ·dsimp only; rw [upd_ne _ _ n84,hSN,hY1]; exact w8
        ·dsimp only; rw [upd_ne _ _ n94,hSN,hA1]; exact w9
        ·intro q z hz
         dsimp only
         rw [upd_ne _ _ (ne_of_some hz hn4)]
         exact w7 _ _ hz
        ·(simp only [FE,↓FP,seval])
         try simp
     ·rw [decide_eq_false hu,if_neg (by decide)] at hci2
      have huT : (UC < visD d) = True := eq_true (by omega)
      simp(maxSteps:=9^9)only[↓VX,VQ,seval,↓ixVis,hvj,huT]
      repeat'(first|intro _|apply And.intro)
      all_goals try first|omega|(simp only[LL];omega)|exact nlC (by decide) _|exact nbC rfl
      all_goals
       refine ⟨(j + 1,mj),⟨by dsimp only; omega,w1,by dsimp only; rw [hSN,hci2]; exact w4,by dsimp only; rw [hSN,hci2]; exact w8,by dsimp only; rw [hSN,hci2]; exact w9,w7⟩,by dsimp only; omega,?_⟩
       (simp only [FE,↓FP,seval])
       all_goals try simp
    ·have hje : j = D.length := by omega
     subst hje
     simp(maxSteps:=9^9)only[↓VX,VQ,seval,hvl,w1]
     repeat'(first|intro _|apply And.intro)
     all_goals try first|omega|(simp only[LL];omega)|exact nlC (by decide) _|exact nbC rfl
     ·rw [if_neg nl4.symm,hcs2]; exact w4
     ·rw [if_neg nl8.symm,hcs2]; exact w8
     ·rw [if_neg nl9.symm,hcs2]; exact w9
     ·rename_i q y hq
      rw [if_neg (ne_of_some hq hl0)]; exact w7 _ _ hq
  have hc0 : camL b k [] = ⟨0,0,0,0⟩ := rfl
  refine ACall.mono (hf2 l _ hyok _ ⟨upd_same _ _ _,?_,?_,?_,fun q y hy => ?_⟩) ?_
  ·show upd _ _ _ b4 = _
   rw [upd_ne _ _ nl4.symm,hc0]
   simp [upd,n94.symm,n84.symm]
  ·show upd _ _ _ b8 = _
   rw [upd_ne _ _ nl8.symm,hc0]
   simp [upd,n98.symm]
  ·show upd _ _ _ b9 = _
   rw [upd_ne _ _ nl9.symm,hc0]
   simp [upd]
  ·show upd _ _ _ q = _
   rw [upd_ne _ _ (ne_of_some hy hl0)]
   simp only [upd,if_neg (ne_of_some hy hb80),if_neg (ne_of_some hy hb90),if_neg (ne_of_some hy hn4)]
   exact hy
  ·rintro r m' ⟨j3,j4,j8,j9,j7⟩
   have hcl2 := hcl1 (fairR b)
   have hse : settledR (camL b k (fairR b)).yes (camL b k (fairR b)).all = if (camL b k (fairR b)).yes = (camL b k (fairR b)).all then 1 else if (camL b k (fairR b)).yes = 0 then 2 else 0 := rfl
   generalize camL b k (fairR b) = SF at *
   simp(maxSteps:=9^9)only[↓VX,VQ,seval,j3,j4,j8,j9,nl8,nl8.symm,nl9,nl9.symm,nl4,nl4.symm]
   repeat'(first|intro _|apply And.intro)
   all_goals try first|omega|(simp only[LL];omega)|exact nlC (by decide) _|exact nbC rfl
   all_goals
    refine ⟨m,fun q y hy => ?_,?_,rfl⟩
    ·have h1 := g1 _ _ hy
     rw [if_neg (ne_of_some hy hb4),if_neg (ne_of_some h1 hl0)]
     exact j7 _ _ h1
   ·rw [hse,if_pos (by omega)]
   ·rw [hse,if_neg (by omega),if_pos (by omega)]
   ·rw [hse,if_neg (by omega),if_neg (by omega)]
theorem decides1_c (F : AV) (w : List Int) (hw : w.length ≤ 3) (hr : ∀ x ∈ w,-1 ≤ x ∧ x ≤ 4) (a : Nat) (ha : a < w.length) (k : Int) (hk : 0 ≤ k ∧ k ≤ 4) : PCall Try.prog 31 [F,ownA w,.eptr [.int .i64 a],.eptr [.int .i64 k]] (.bool (decide (w[a]! = k))) := by
 intro m
 have hat := ownE_at ha hw
 have hlen := ownE_length w
 have hdr := drop_ints (l := ownE w) (k := a) (by omega)
 rw [hat] at hdr
 have hb := hr (w[a]!) (by rw [getD_any ha]; exact List.getElem_mem ha)
 have hm := ownE_mlen w
 have e0 : decide (w[a]! = k) = decide (w[a]! + 1 = k + 1) := by rw [decide_eq_decide]; omega
 rw [e0]
 simp only [ownA]
 (refine acall_intro (E := envC (modeAt [] []) false []) (envCOk _ _ _) rfl Try.func31 rfl Try.call31 (by kernel_rfl) (by simp [Try.ntmps31]) ?_; simp only [Try.f31];  simp(maxSteps:=9^9)only[↓VX,VQ,seval,hdr])
 repeat'(first|intro _|apply And.intro)
 all_goals try first|omega|(simp only[LL];omega)|exact nlC (by decide) _|exact nbC rfl
 (refine adraw (by first | exact envOk _ | exact envCOk _ _ _) mixed [⟨false,false,0⟩,⟨false,false,0⟩,⟨false,false,0⟩,⟨false,false,0⟩,⟨false,false,0⟩,⟨false,false,0⟩,⟨false,false,0⟩] (by kernel_rfl) ?_; show vcOpsD _ _ _ (_ :: _) _ _)
 simp(maxSteps:=9^9)only[↓VX,VQ,seval,hdr]
 repeat'(first|intro _|apply And.intro)
 all_goals try first|omega|(simp only[LL];omega)|exact nlC (by decide) _|exact nbC rfl
def mustN (b : RBook) (a : Nat) (n : Nat) : Nat := ((List.range n).filter fun (k : Nat) => decide (askF (fun x : RTru × List Int => decide (x.2[a]! = (k : Int))) (fairR b) = 1)).length
theorem mustN_succ (b : RBook) (a n : Nat) : mustN b a (n + 1) = if askF (fun x : RTru × List Int => decide (x.2[a]! = (n : Int))) (fairR b) = 1 then mustN b a n + 1 else mustN b a n := by
 unfold mustN
 rw [List.range_succ,List.filter_append,List.length_append,List.filter_cons]
 by_cases q : askF (fun x : RTru × List Int => decide (x.2[a]! = (n : Int))) (fairR b) = 1
 ·rw [if_pos q,if_pos (by simpa using q)]; rfl
 ·rw [if_neg q,if_neg (by simpa using q)]; rfl
theorem sureR_iff {b : RBook} (hb : BOk b) {a : Nat} (ha : a < b.answers.length) : sureR b a = true ↔ ∃ k : Nat,k < b.harb.letters.length ∧ ∀ x ∈ fairR b,x.2[a]! = (k : Int) := by
 have hfp := fair_pos hb
 have h0 : (fairR b)[0]! ∈ fairR b := by rw [getD_any hfp]; exact List.getElem_mem hfp
 unfold sureR
 rw [List.all_eq_true]
 constructor
 ·intro h
  have h1 := h _ h0
  unfold sureF at h1
  rw [Bool.and_eq_true,decide_eq_true_eq,decide_eq_true_eq] at h1
  have hr := ((mem_waysR.1 (fair_mem.1 h0).2.1).2 a ha).range
  refine ⟨(((fairR b)[0]!).2[a]!).toNat,by omega,fun x hx => ?_⟩
  have h2 := h x hx
  unfold sureF at h2
  rw [Bool.and_eq_true,decide_eq_true_eq,decide_eq_true_eq] at h2
  omega
 ·rintro ⟨k,hk,h⟩ x hx
  unfold sureF
  rw [h x hx,h _ h0]
  simp
theorem mustN_all {b : RBook} (hb : BOk b) {a : Nat} (ha : a < b.answers.length) : mustN b a b.harb.letters.length = if sureR b a = true then 1 else 0 := by
 have hfp := fair_pos hb
 have h0 : (fairR b)[0]! ∈ fairR b := by rw [getD_any hfp]; exact List.getElem_mem hfp
 have hp : ∀ k : Nat,askF (fun x : RTru × List Int => decide (x.2[a]! = (k : Int))) (fairR b) = 1 ↔ ∀ x ∈ fairR b,x.2[a]! = (k : Int) := fun k => by
  rw [ask_all]; simp only [decide_eq_true_eq]
 have one : ∀ n,mustN b a n = if ∃ k : Nat,k < n ∧ ∀ x ∈ fairR b,x.2[a]! = (k : Int) then 1 else 0 := by
  intro n
  induction n with
  | zero =>
   rw [if_neg (by rintro ⟨k,hk,_⟩; omega)]; rfl
  | succ n ih =>
   rw [mustN_succ,ih]
   by_cases q : askF (fun x : RTru × List Int => decide (x.2[a]! = (n : Int))) (fairR b) = 1
   ·rw [if_pos q]
    have q' := (hp n).1 q
    rw [if_neg,if_pos ⟨n,by omega,q'⟩]
    rintro ⟨k,hk,h⟩
    have := h _ h0
    rw [q' _ h0] at this
    omega
   ·rw [if_neg q]
    by_cases q2 : ∃ k : Nat,k < n ∧ ∀ x ∈ fairR b,x.2[a]! = (k : Int)
    ·obtain ⟨k,hk,h⟩ := q2
     rw [if_pos ⟨k,hk,h⟩,if_pos ⟨k,by omega,h⟩]
    ·rw [if_neg q2,if_neg]
     rintro ⟨k,hk,h⟩
     by_cases e : k = n
     ·subst e; exact q ((hp k).2 h)
     ·exact q2 ⟨k,by omega,h⟩
 rw [one]
 by_cases q : sureR b a = true
 ·rw [if_pos q,if_pos ((sureR_iff hb ha).1 q)]
 ·rw [if_neg q,if_neg (fun w => q ((sureR_iff hb ha).2 w))]
theorem or32 : ∀ (x : Nat),x < 32 → ∀ w : Nat,w < 5 → bitI (x : Int) (w : Int) = false → ((x ||| 2 ^ w : Nat) : Int) = (x : Int) + 2 ^ w := by decide +kernel
theorem bit32 : ∀ (x : Nat),x < 32 → ∀ w : Nat,w < 5 → bitI (x : Int) (w : Int) = x.testBit w := by decide +kernel
theorem ansC_setW : ∀ (l : List RAns) (a : Nat) (v : Int),a < l.length → (ansC l).take (a * 3 + 1) ++ [.int .i64 v] ++ (ansC l).drop (a * 3 + 1 + 1) = ansC (l.set a { l[a]! with words := v })
 | [],_,_,h => by cases h
 | x :: l,0,v,_ => rfl
 | x :: l,a + 1,v,h => by
  have e := ansC_setW l a v (by simpa using h)
  rw [show (a + 1) * 3 + 1 = a * 3 + 1 + 1 + 1 + 1 by omega]
  rw [List.set_cons_succ,ansC_cons,ansC_cons]
  simp only [List.cons_append,List.take_succ_cons,List.drop_succ_cons]
  rw [show (x :: l)[a + 1]! = l[a]! from rfl,← e]
theorem ansC_length (l : List RAns) : (ansC l).length = l.length * 3 := by
 induction l with
 | nil => rfl
 | cons x l ih => rw [ansC_cons]; simp only [List.length_cons,ih]; omega
theorem set_at {l : List RAns} {a : Nat} {y : RAns} (h : a < l.length) : (l.set a y)[a]! = y := by
 rw [getD_any (by rw [List.length_set]; exact h),List.getElem_set,if_pos rfl]
theorem decides_top (b : RBook) (hs : hnamesFit b.harb) (answer : Int) : PCall Try.prog 11 [bookA b,.int .i64 answer] (.tuple [ints (decidesR b answer).1,.int .i64 (decidesR b answer).2]) := by
 intro m
 refine ACall.forget ?_
 have hen := renter_c b hs [(answer,b.answers.length)] (fun q => ⟨by simp,fun j hj => by
  have : j = 0 := by simp at hj; omega
  subst this
  have := (bok_check q).n
  show (0 : Int) ≤ b.answers.length ∧ (b.answers.length : Int) ≤ 1000
  omega⟩) m
 have e0 : decidesR b answer = if indexB b answer b.answers.length = 0 then (idxF (decF b answer.toNat) 5,0) else ([],indexB b answer b.answers.length) := rfl
 rw [index_enter] at e0
 have hpl : pairsL [(answer,(b.answers.length : Int))] = [answer,(b.answers.length : Int)] := rfl
 rw [hpl] at hen
 simp only [bookA,bookL,harbA,harbL,ints,List.cons_append,List.nil_append,List.map_cons,List.map_nil] at hen ⊢
 (refine acall_intro (E := envC (modeAt [9] [26]) false [5]) (envCOk _ _ _) rfl Try.func11 rfl Try.call11 (by kernel_rfl) (by simp [Try.ntmps11]) ?_; simp only [Try.f11];  simp(maxSteps:=9^9)only[↓VX,VQ,seval,Int.reduceEq])
 repeat'(first|intro _|apply And.intro)
 all_goals try first|omega|(simp only[LL];omega)|exact nlC (by decide) _|exact nbC rfl
 refine ACall.told hen ?_
 rintro r m1 (⟨z1,rfl,rfl⟩ | ⟨z1,hb,z2,bk,rfl,g1,g2⟩)
 ·rw [if_neg z1] at e0
  rw [e0]
  generalize renterE b [(answer,(b.answers.length : Int))] = E at *
  simp(maxSteps:=9^9)only[↓VX,VQ,seval]
  repeat'(first|intro _|apply And.intro)
  all_goals try first|omega|(simp only[LL];omega)|exact nlC (by decide) _|exact nbC rfl
  exact ⟨m1,fun _ _ h => h,rfl⟩
 ·rw [if_pos z1] at e0
  have z3 := z2 _ (List.mem_singleton.2 rfl)
  dsimp only at z3
  have hna := hb.n
  have hw := hb.w
  have hnl := hb.h.nl
  obtain ⟨a,rfl⟩ : ∃ a : Nat,answer = (a : Int) := ⟨answer.toNat,by omega⟩
  rw [Int.toNat_natCast] at e0
  have ha : a < b.answers.length := by omega
  rw [e0]
  clear e0 hen hpl
  have han := (hb.ans a ha).2.1
  have hps := idxF_succ (decF b a)
  have hpl := idxF_length (decF b a)
  have hp0 : idxF (decF b a) 0 = [] := rfl
  have hds : ∀ w,decF b a w = (!bitI (b.answers[a]!).words w && sureR (namedR b a w) a) := fun _ => rfl
  simp(maxSteps:=9^9)only[↓VX,VQ,seval,z1]
  repeat'(first|intro _|apply And.intro)
  all_goals try first|omega|(simp only[LL];omega)|exact nlC (by decide) _|exact nbC rfl
  rename_i bo hbo
  obtain ⟨X,hX,hX32,hX1⟩ : ∃ X : Nat,(b.answers[a]!).words = (X : Int) ∧ X < 32 ∧ 1 ≤ X := ⟨(b.answers[a]!).words.toNat,by omega,by omega,by omega⟩
  refine acut_at_k 3 (envCOk _ _ _) (V := vcCopyS _) (fun h hd _ _ _ hi hf hs _ _ _ hn => vcCopyS_sound (envCOk _ _ _) h hd hi hf hs hn) rfl rfl (fun (_ : Unit) => ⟨[(2,.v (.eptr [.int .i64 b.harb.ports,.int .i64 b.harb.lost,.slice 5 (b.harb.ships.map shipA),.slice 3 (b.harb.letters.map letA),.slice 4 (b.harb.reports.map repA),.slice 1 (b.words.map (AV.int .i64)),.int .i64 b.back,.slice 3 (b.answers.map ansA)])),(3,.v (.eptr [.int .i64 a])),(4,.v (.slice 1 [])),(6,.v (.mslice bo 0 b.answers.length b.answers.length))],[4],[],upd m1 bo (some (.cells (ansC b.answers)))⟩) (fun _ => True) (fun _ => rfl) ?_ ?_
  ·show vcOps _ _ (_ :: _) _ _
   simp(maxSteps:=9^9)only[↓VX,VQ,seval,List.take_succ_cons,List.take_zero,vcCopyS]
   have hzl : ((List.replicate b.answers.length [AV.int .i64 0,AV.int .i64 0,AV.int .i64 0]).flatten).length = b.answers.length * 3 := by
    generalize b.answers.length = n
    induction n with
    | zero => rfl
    | succ n ih => rw [List.replicate_succ,List.flatten_cons,List.length_append,ih]; simp; omega
   have hal := ansC_length b.answers
   refine ⟨by rw [hzl]; exact Nat.le_refl _,(),?_⟩
   (simp only [FE,↓FP,seval])
   rw [updTwice,show (((b.answers.map ansA).map AV.cells).flatten).length = b.answers.length * 3 from hal,List.drop_eq_nil_of_le (by rw [hzl]; exact Nat.le_refl _),List.append_nil]
   rfl
  intro _ _
  simp(maxSteps:=9^9)only[↓VX,VQ,seval]
  repeat'(first|intro _|apply And.intro)
  all_goals try first|omega|(simp only[LL];omega)|exact nlC (by decide) _|exact nbC rfl
  refine aloop (envCOk _ _ _) (fun x : Nat × Mem => ⟨[(2,.v (.eptr [.int .i64 b.harb.ports,.int .i64 b.harb.lost,.slice 5 (b.harb.ships.map shipA),.slice 3 (b.harb.letters.map letA),.slice 4 (b.harb.reports.map repA),.slice 1 (b.words.map (AV.int .i64)),.int .i64 b.back,.slice 3 (b.answers.map ansA)])),(3,.v (.eptr [.int .i64 a])),(4,.v (.slice 1 ((idxF (decF b a) x.1).map (AV.int .i64)))),(6,.v (.mslice bo 0 b.answers.length b.answers.length)),(31,.v (.int .i64 x.1))],[4],[],x.2⟩)
   (fun x => x.1 ≤ 5 ∧ (∃ y : RAns,y.port = (b.answers[a]!).port ∧ y.day = (b.answers[a]!).day ∧ x.2 bo = some (.cells (ansC (b.answers.set a y)))) ∧ ∀ q z,m1 q = some z → x.2 q = some z) (fun x => 5 - x.1) (0,upd m1 bo (some (.cells (ansC b.answers)))) (fun _ => rfl) ⟨Nat.zero_le _,⟨b.answers[a]!,rfl,rfl,?_⟩,fun q z hz => ?_⟩ (by (simp only [FE,↓FP,seval]); try simp [hp0]) ?_
  ·dsimp only
   rw [upd_same]
   have : b.answers.set a (b.answers[a]!) = b.answers := by rw [getD_any ha,List.set_getElem_self]
   rw [this]
  ·dsimp only
   rw [upd_ne _ _ (ne_of_some hz hbo)]; exact hz
  rintro ⟨w,mw⟩ ⟨hw5,⟨y,y1,y2,hmo⟩,hm1⟩
  dsimp only at hw5 hmo hm1
  have hps1 := hps w
  have hpl1 := hpl w
  have hds1 := hds w
  by_cases hwl : w < 5
  ·have hbX := bit32 X hX32 w hwl
   have horX := or32 X hX32 w hwl
   have hp5 : 2 ^ w ≤ 2 ^ 4 := Nat.pow_le_pow_right (by decide) (by omega)
   have hxw : X / 2 ^ w ≤ X := Nat.div_le_self _ _
   rw [hX,hbX] at hds1
   rw [hbX] at horX
   cases hB : X.testBit w
   ·rw [hB,Bool.not_false,Bool.true_and] at hds1
    have horX2 := horX hB
    have hmore : { y with words := ((X ||| 2 ^ w : Nat) : Int) } = moreA (b.answers[a]!) w := by
     unfold moreA
     rw [hX,hbX,hB,if_neg (by decide),horX2]
     obtain ⟨py,wy,dy⟩ := y
     dsimp only at y1 y2 ⊢
     rw [y1,y2]
    have hset := ansC_setW (b.answers.set a y) a ((X ||| 2 ^ w : Nat) : Int) (by rw [List.length_set]; exact ha)
    rw [set_at ha,List.set_set,hmore] at hset
    have hsl : (ansC (b.answers.set a y)).length = b.answers.length * 3 := by rw [ansC_length,List.length_set]
    have hnb := named_bok hb ha hwl
    have hnl2 : (namedR b a w).answers.length = b.answers.length := List.length_set ..
    have hlk := fun (mm : Mem) (hAA : AnsIn (namedR b a w).answers (.mslice bo 0 b.answers.length b.answers.length) mm) => rlook_c (namedR b a w) hnb (.mslice bo 0 b.answers.length b.answers.length) mm hAA
    have hask := fun (bk : Nat) (m : Mem) (h : Looked (namedR b a w) (.mslice bo 0 b.answers.length b.answers.length) bk m) (k : Nat) (hk : k < b.harb.letters.length) => ask_c (namedR b a w) hnb (.mslice bo 0 b.answers.length b.answers.length) bk m h 31 [.eptr [.int .i64 a],.eptr [.int .i64 k]] (fun x => decide (x.2[a]! = (k : Int))) fun x hx => by
     obtain ⟨h1,h2⟩ := fair_range hnb hx
     rw [hnl2] at h1
     exact decides1_c _ x.2 (by omega) h2 a (by omega) k (by omega)
    have hmust := mustN_succ (namedR b a w) a
    have hmall := mustN_all hnb (a := a) (by rw [hnl2]; exact ha)
    have hm0 : mustN (namedR b a w) a 0 = 0 := rfl
    have hbv : bookV (namedR b a w) (.mslice bo 0 b.answers.length b.answers.length) = .agg [.int .i64 b.harb.ports,.int .i64 b.harb.lost,.slice 5 (b.harb.ships.map shipA),.slice 3 (b.harb.letters.map letA),.slice 4 (b.harb.reports.map repA),.slice 1 (b.words.map (AV.int .i64)),.int .i64 b.back,.mslice bo 0 b.answers.length b.answers.length] := rfl
    rw [hbv] at hlk
    have hnlt : (namedR b a w).harb.letters.length = b.harb.letters.length := rfl
    rw [hnlt] at hmall
    have han2 : (namedR b a w).answers = b.answers.set a (moreA (b.answers[a]!) w) := rfl
    have hAin : AnsIn (namedR b a w).answers (.mslice bo 0 b.answers.length b.answers.length) (upd mw bo (some (.cells (ansC (b.answers.set a (moreA (b.answers[a]!) w)))))) := .inr ⟨bo,b.answers.length,[],by rw [hnl2],by rw [upd_same,List.append_nil,han2],by rw [hnl2]; exact Nat.le_refl _⟩
    have hlk1 := hlk _ hAin
    simp(maxSteps:=9^9)only[↓VX,VQ,seval,↓ixAns,hX,hB]
    repeat'(first|intro _|apply And.intro)
    all_goals try first|omega|(simp only[LL];omega)|exact nlC (by decide) _|exact nbC rfl
    (refine adraw (by first | exact envOk _ | exact envCOk _ _ _) mixed [⟨false,false,0⟩,⟨false,false,0⟩,⟨false,false,0⟩,⟨false,false,0⟩,⟨false,false,0⟩,⟨false,false,0⟩,⟨false,false,0⟩,⟨false,false,0⟩,⟨false,false,0⟩,⟨false,false,0⟩,⟨false,false,0⟩,⟨false,false,0⟩,⟨false,false,0⟩,⟨false,false,0⟩] (by kernel_rfl) ?_; show vcOpsD _ _ _ (_ :: _) _ _)
    simp(maxSteps:=9^9)only[↓VX,VQ,seval,↓ixAns,hX,hmo,hset,hsl,buildV]
    repeat'(first|intro _|apply And.intro)
    all_goals try first|omega|(simp only[LL];omega)|exact nlC (by decide) _|exact nbC rfl
    refine ACall.told hlk1 ?_
    rintro r2 m2 ⟨bk2,rfl,u1,u2⟩
    have hbo2 := u1 _ _ (upd_same mw bo _)
    have hm2 : ∀ q z,m1 q = some z → m2 q = some z := fun q z hz => u1 _ _ (by rw [upd_ne _ _ (ne_of_some hz hbo)]; exact hm1 _ _ hz)
    have hask1 := hask bk2 m2 u2
    clear hlk hlk1 hask hset hmo
    simp(maxSteps:=9^9)only[↓VX,VQ,seval]
    repeat'(first|intro _|apply And.intro)
    all_goals try first|omega|(simp only[LL];omega)|exact nlC (by decide) _|exact nbC rfl
    refine aloop (envCOk _ _ _) (fun k : Nat => ⟨[(2,.v (.eptr [.int .i64 b.harb.ports,.int .i64 b.harb.lost,.slice 5 (b.harb.ships.map shipA),.slice 3 (b.harb.letters.map letA),.slice 4 (b.harb.reports.map repA),.slice 1 (b.words.map (AV.int .i64)),.int .i64 b.back,.slice 3 (b.answers.map ansA)])),(3,.v (.eptr [.int .i64 a])),(4,.v (.slice 1 ((idxF (decF b a) w ++ List.replicate (mustN (namedR b a w) a k) (w : Int)).map (AV.int .i64)))),(6,.v (.mslice bo 0 b.answers.length b.answers.length)),(7,.v (.int .i64 w)),(8,.v (.ptr bk2 0)),(31,.v (.int .i64 w)),(68,.v (.int .i64 b.words.length)),(69,.v (.int .i64 k))],[4],[],m2⟩)
     (fun k => k ≤ b.words.length) (fun k => b.words.length - k) 0 (fun _ => rfl) (by omega) (by (simp only [FE,↓FP,seval]); try simp [hm0]) ?_
    intro k hk
    have hmust1 := hmust k
    have hmle : mustN (namedR b a w) a k ≤ k := by unfold mustN; exact Nat.le_trans (List.length_filter_le _ _) (by simp)
    by_cases hkl : k < b.words.length
    ·have hask2 := hask1 k (by omega)
     generalize askF (fun x : RTru × List Int => decide (x.2[a]! = (k : Int))) (fairR (namedR b a w)) = AK at *
     generalize mustN (namedR b a w) a k = MK at *
     simp(maxSteps:=9^9)only[↓VX,VQ,seval,buildV]
     repeat'(first|intro _|apply And.intro)
     all_goals try first|omega|(simp only[LL];omega)|exact nlC (by decide) _|exact nbC rfl
     refine ACall.told hask2 ?_
     rintro r3 m3 ⟨rfl,rfl⟩
     simp(maxSteps:=9^9)only[↓VX,VQ,seval,List.length_append,List.length_map,List.length_replicate]
     repeat'(first|intro _|apply And.intro)
     all_goals try first|omega|(simp only[LL];omega)|exact nlC (by decide) _|exact nbC rfl
     ·rw [if_pos (by assumption)] at hmust1
      refine ⟨k + 1,by dsimp only; omega,by dsimp only; omega,?_⟩
      (simp only [FE,↓FP,seval])
      rw [hmust1,List.replicate_succ']
      try simp
     ·rw [if_neg (by assumption)] at hmust1
      refine ⟨k + 1,by dsimp only; omega,by dsimp only; omega,?_⟩
      (simp only [FE,↓FP,seval])
      rw [hmust1]
      try simp
    ·have hke : k = b.harb.letters.length := by omega
     subst hke
     rw [hmall]
     simp(maxSteps:=9^9)only[↓VX,VQ,seval]
     repeat'(first|intro _|apply And.intro)
     all_goals try first|omega|(simp only[LL];omega)|exact nlC (by decide) _|exact nbC rfl
     refine ⟨(w + 1,m2),⟨by dsimp only; omega,⟨moreA (b.answers[a]!) w,?_,?_,hbo2⟩,hm2⟩,by dsimp only; omega,?_⟩
     ·unfold moreA; split <;> rfl
     ·unfold moreA; split <;> rfl
     ·(simp only [FE,↓FP,seval])
      rw [hps1,hds1]
      by_cases hS : sureR (namedR b a w) a = true
      ·rw [if_pos hS,if_pos hS]
       try simp
      ·rw [if_neg hS,if_neg hS]
       try simp
   ·rw [hB,Bool.not_true,Bool.false_and] at hds1
    rw [hds1,if_neg (by decide)] at hps1
    simp(maxSteps:=9^9)only[↓VX,VQ,seval,↓ixAns,hX,hB]
    repeat'(first|intro _|apply And.intro)
    all_goals try first|omega|(simp only[LL];omega)|exact nlC (by decide) _|exact nbC rfl
    refine ⟨(w + 1,mw),⟨by dsimp only; omega,⟨y,y1,y2,hmo⟩,hm1⟩,by dsimp only; omega,?_⟩
    (simp only [FE,↓FP,seval])
    rw [hps1]
    try simp
  ·have hwe : w = 5 := by omega
   subst hwe
   simp(maxSteps:=9^9)only[↓VX,VQ,seval]
   repeat'(first|intro _|apply And.intro)
   all_goals try first|omega|(simp only[LL];omega)|exact nlC (by decide) _|exact nbC rfl
   exact ⟨m,fun q z hz => hm1 _ _ (g1 _ _ hz),rfl⟩
def exH0 : RHarb := ⟨2,0,[⟨⟨#[97,108,98,97]⟩,1,[⟨0,3⟩,⟨1,6⟩],0,2⟩,⟨⟨#[98,114,105,115,97]⟩,3,[⟨1,3⟩],0,1⟩],[⟨1,0,-1⟩,⟨1,2,-1⟩],[⟨0,0,0,5⟩]⟩
def exB (day : Int) : RBook := ⟨exH0,[3,6],4,[⟨1,2,day⟩,⟨1,2,12⟩,⟨1,5,20⟩]⟩
def exD : RBook := ⟨exH0,[3,6],4,[⟨1,2,11⟩,⟨1,5,20⟩]⟩
theorem exH0_names : hnamesFit exH0 := by
 intro s hs
 simp only [exH0,List.mem_cons,List.not_mem_nil,or_false] at hs
 rcases hs with rfl | rfl <;> decide
theorem xb1 : couldR (exB 11) 0 = ([0,1],0) := by kernel_rfl
theorem xb2 : firstR (exB 11) = ([0,1,-1],1,0) := by kernel_rfl
theorem xb3 : firstR (exB 9) = ([-1,0,-1],2,0) := by kernel_rfl
theorem xb4 : belongsR (exB 11) 0 0 = (0,0) := by kernel_rfl
theorem xb5 : belongsR (exB 11) 2 0 = (2,0) := by kernel_rfl
theorem xb6 : straysR (exB 11) = ([2],[2],0) := by kernel_rfl
theorem xb7 : waitsR exD = ([0,1],[],0) := by kernel_rfl
theorem xb8 : cameR (exB 11) 0 = (⟨6,8,(cameR (exB 11) 0).1.yes,(cameR (exB 11) 0).1.all⟩,1,0) := by kernel_rfl
theorem xb9 : decidesR (exB 11) 0 = ([0,2],0) := by kernel_rfl
theorem xb10 : couldR (exB 11) 3 = ([],4) := by kernel_rfl
theorem eqFlatSpan (a b a' b' : Int) : EqFlat Try.prog 41 [.int .i64 a,.int .i64 b] [.int .i64 a',.int .i64 b'] (decide (a = a') && (decide (b = b') && true)) := by
 intro vs vs' com w x y h h'
 obtain ⟨v1,vs,rfl,r1,h⟩ := Reps.cons_inv h
 obtain ⟨v2,vs,rfl,r2,h⟩ := Reps.cons_inv h
 obtain rfl := Reps.nil_inv h
 obtain ⟨u1,us,rfl,s1,h'⟩ := Reps.cons_inv h'
 obtain ⟨u2,us,rfl,s2,h'⟩ := Reps.cons_inv h'
 obtain rfl := Reps.nil_inv h'
 obtain rfl := rep_int r1; obtain rfl := rep_int r2
 obtain rfl := rep_int s1; obtain rfl := rep_int s2
 have hg : Try.prog.eqGuardType Try.prog.depth 41 = false := by kernel_rfl
 have hu : Try.prog.underlying 41 = some (.struct (Try.prog.fieldsOf 41)) := by kernel_rfl
 have hs : Try.prog.stoodInHeld 41 = false := by kernel_rfl
 have key : (Op.equalIn 10000 41 (.agg #[.int .i64 a,.int .i64 b]) (.agg #[.int .i64 a',.int .i64 b'])).run Try.prog w =
   .ok (decide (a = a') && (decide (b = b') && true)) w := by
  rw [run_equalIn_agg w 9999 41 _ _ hu hs]
  simp only [Program.fieldsOf,Try.underlying41]
  exact eqStep (by decide) rfl rfl rfl (eqStep (by decide) rfl rfl rfl (by simp [Op.eqFields]))
 constructor
 ·rw [Sem.run_bind,run_eqGuard_agg w .eql 41 x y _ _ hg,Result.andThen_ok,run_eql_struct,key]; rfl
 ·rw [Sem.run_bind,run_eqGuard_agg w .neq 41 x y _ _ hg,Result.andThen_ok,run_neq_struct,key]; rfl
theorem span4_c (a b : Int) : PCall Try.prog 34 [.int .i64 a,.int .i64 b] (.agg [.int .i64 a,.int .i64 b]) := by
 intro m
 (refine acall_intro (E := envC (modeAt [4] []) false []) (envCOk _ _ _) rfl Try.func34 rfl Try.call34 (by kernel_rfl) (by simp [Try.ntmps34]) ?_; simp only [Try.f34];  simp(maxSteps:=9^9)only[↓VX,VQ,seval])
 unfold vcSome
 simp only [buildFrom,placeOf]
 simp(maxSteps:=9^9)only[↓VX,VQ,seval]
theorem span6_c (a b : Int) : PCall Try.prog 13 [.int .i64 a,.int .i64 b] (.agg [.int .i64 a,.int .i64 b]) := by
 intro m
 (refine acall_intro (E := envC (modeAt [4] []) false []) (envCOk _ _ _) rfl Try.func13 rfl Try.call13 (by kernel_rfl) (by simp [Try.ntmps13]) ?_; simp only [Try.f13];  simp(maxSteps:=9^9)only[↓VX,VQ,seval])
 unfold vcSome
 simp only [buildFrom,placeOf]
 simp(maxSteps:=9^9)only[↓VX,VQ,seval]
theorem answer_c (a b : Int) : PCall Try.prog 16 [.int .i64 a,.int .i64 b] (.agg [.int .i64 1,.int .i64 a,.int .i64 b]) := by
 intro m
 (refine acall_intro (E := envC (modeAt [4] []) false []) (envCOk _ _ _) rfl Try.func16 rfl Try.call16 (by kernel_rfl) (by simp [Try.ntmps16]) ?_; simp only [Try.f16];  simp(maxSteps:=9^9)only[↓VX,VQ,seval])
 unfold vcSome
 simp only [buildFrom,placeOf]
 simp(maxSteps:=9^9)only[↓VX,VQ,seval]
theorem harb0_c : PCall Try.prog 15 [.int .i64 0,.int .i64 0] (harbA exH0) := by
 intro m
 have h1 := span4_c 0 2
 have h2 := span4_c 0 1
 simp only [harbA,harbL,exH0,List.map_cons,List.map_nil,shipA,shipL,callA,letA,repA]
 (refine acall_intro (E := envC (modeAt [4,5] []) false []) (envCOk _ _ _) rfl Try.func15 rfl Try.call15 (by kernel_rfl) (by simp [Try.ntmps15]) ?_; simp only [Try.f15];  simp(maxSteps:=9^9)only[↓VX,VQ,seval,buildV,Int.reduceEq])
 (refine ACall.pure (h1) ?_; try simp(maxSteps:=9^9)only[↓VX,VQ,seval,GL,buildV,Int.reduceEq])
 (refine ACall.pure (h2) ?_; try simp(maxSteps:=9^9)only[↓VX,VQ,seval,GL,buildV,Int.reduceEq])
 try rfl
theorem book_c (day : Int) : PCall Try.prog 4 [.int .i64 day] (bookA (exB day)) := by
 intro m
 have h1 := harb0_c
 have h2 := answer_c 2 day
 have h3 := answer_c 2 12
 have h4 := answer_c 5 20
 simp only [bookA,bookL,exB,harbA,harbL,exH0,List.map_cons,List.map_nil,shipA,shipL,callA,letA,repA,ansA,ints] at h1 ⊢
 (refine acall_intro (E := envC (modeAt [2] []) false []) (envCOk _ _ _) rfl Try.func4 rfl Try.call4 (by kernel_rfl) (by simp [Try.ntmps4]) ?_; simp only [Try.f4];  simp(maxSteps:=9^9)only[↓VX,VQ,seval,buildV,Int.reduceEq])
 (refine ACall.pure (h1) ?_; try simp(maxSteps:=9^9)only[↓VX,VQ,seval,GL,buildV,Int.reduceEq])
 (refine ACall.pure (h2) ?_; try simp(maxSteps:=9^9)only[↓VX,VQ,seval,GL,buildV,Int.reduceEq])
 (refine ACall.pure (h3) ?_; try simp(maxSteps:=9^9)only[↓VX,VQ,seval,GL,buildV,Int.reduceEq])
 (refine ACall.pure (h4) ?_; try simp(maxSteps:=9^9)only[↓VX,VQ,seval,GL,buildV,Int.reduceEq])
 try rfl
theorem few_c : PCall Try.prog 5 [] (bookA exD) := by
 intro m
 have h1 := book_c 11
 have h3 := answer_c 2 11
 have h4 := answer_c 5 20
 simp only [bookA,bookL,exB,exD,harbA,harbL,exH0,List.map_cons,List.map_nil,shipA,shipL,callA,letA,repA,ansA,ints] at h1 ⊢
 (refine acall_intro (E := envC (modeAt [0,1] []) false []) (envCOk _ _ _) rfl Try.func5 rfl Try.call5 (by kernel_rfl) (by simp [Try.ntmps5]) ?_; simp only [Try.f5];  simp(maxSteps:=9^9)only[↓VX,VQ,seval,buildV,Int.reduceEq])
 (refine ACall.pure (h1) ?_; try simp(maxSteps:=9^9)only[↓VX,VQ,seval,GL,buildV,Int.reduceEq])
 (refine ACall.pure (h3) ?_; try simp(maxSteps:=9^9)only[↓VX,VQ,seval,GL,buildV,Int.reduceEq])
 (refine ACall.pure (h4) ?_; try simp(maxSteps:=9^9)only[↓VX,VQ,seval,GL,buildV,Int.reduceEq])
 try rfl
theorem intsT_c (a : List Int) : PCall Try.prog 12 [ints a,ints a] (.bool true) := by
 have := ints_c a a
 rwa [decide_eq_true rfl] at this
theorem awake_c : PCall Try.prog 14 [] (.bool true) := by
 intro m
 have a0 := book_c 11
 have a1 := few_c
 have a2 := book_c 9
 have b1 := could_top (exB 11) exH0_names 0
 have b2 := first_top (exB 11) exH0_names
 have b3 := first_top (exB 9) exH0_names
 have b4 := belongs_top (exB 11) exH0_names 0 0
 have b5 := belongs_top (exB 11) exH0_names 2 0
 have b6 := strays_top (exB 11) exH0_names
 have b7 := waits_top exD exH0_names
 have b8 := came_top (exB 11) exH0_names 0
 have b9 := decides_top (exB 11) exH0_names 0
 have b10 := could_top (exB 11) exH0_names 3
 have i1 := intsT_c [0,1]
 have i2 := intsT_c [0,1,-1]
 have i3 := intsT_c [-1,0,-1]
 have i4 := intsT_c [2]
 have i5 := intsT_c [0,2]
 have s1 := span6_c 6 8
 have eqs := eqFlatSpan 6 8 6 8
 rw [xb1] at b1; rw [xb2] at b2; rw [xb3] at b3; rw [xb4] at b4; rw [xb5] at b5; rw [xb6] at b6; rw [xb7] at b7; rw [xb8] at b8; rw [xb9] at b9; rw [xb10] at b10
 simp only [bookA,bookL,exB,exD,harbA,harbL,exH0,List.map_cons,List.map_nil,shipA,shipL,callA,letA,repA,ansA,ints] at *
 simp only [decide_true,Bool.and_true] at eqs
 (refine acall_intro (E := envC (modeAt [1,2,3,22] []) false []) (envCOk _ _ _) rfl Try.func14 rfl Try.call14 (by kernel_rfl) (by simp [Try.ntmps14]) ?_; simp only [Try.f14];  simp(maxSteps:=9^9)only[↓VX,VQ,seval,Int.reduceEq])
 (refine ACall.pure (a0) ?_; try simp(maxSteps:=9^9)only[↓VX,VQ,seval])
 (refine ACall.pure (a1) ?_; try simp(maxSteps:=9^9)only[↓VX,VQ,seval])
 (refine ACall.pure (a2) ?_; try simp(maxSteps:=9^9)only[↓VX,VQ,seval])
 (refine ACall.pure (b1) ?_; try simp(maxSteps:=9^9)only[↓VX,VQ,seval])
 (refine ACall.pure (b2) ?_; try simp(maxSteps:=9^9)only[↓VX,VQ,seval])
 (refine ACall.pure (b3) ?_; try simp(maxSteps:=9^9)only[↓VX,VQ,seval])
 (refine ACall.pure (b4) ?_; try simp(maxSteps:=9^9)only[↓VX,VQ,seval])
 (refine ACall.pure (b5) ?_; try simp(maxSteps:=9^9)only[↓VX,VQ,seval])
 (refine ACall.pure (b6) ?_; try simp(maxSteps:=9^9)only[↓VX,VQ,seval])
 (refine ACall.pure (b7) ?_; try simp(maxSteps:=9^9)only[↓VX,VQ,seval])
 (refine ACall.pure (b8) ?_; try simp(maxSteps:=9^9)only[↓VX,VQ,seval])
 (refine ACall.pure (b9) ?_; try simp(maxSteps:=9^9)only[↓VX,VQ,seval])
 ((refine ACall.pure (b10) ?_; try simp(maxSteps:=9^9)only[↓VX,VQ,seval]); try simp(maxSteps:=9^9)only[↓VX,VQ,seval,GL])
 (refine adrawQ (by first | exact envOk _ | exact envCOk _ _ _) mixed (by kernel_rfl) 104 ?_; simp only [List.replicate_succ,List.replicate_zero]; show vcOpsD _ _ _ (_ :: _) _ _)
 simp(maxSteps:=9^9)only[↓VX,VQ,seval,Int.reduceEq,eq_self,decide_true,decide_false,if_true,if_false,not_true_eq_false,List.append_eq]
 refine VPure.of i1 ?_
 simp(maxSteps:=9^9)only[↓VX,VQ,seval,Int.reduceEq,eq_self,decide_true,decide_false,if_true,if_false,not_true_eq_false,List.append_eq]
 refine VPure.of i2 ?_
 simp(maxSteps:=9^9)only[↓VX,VQ,seval,Int.reduceEq,eq_self,decide_true,decide_false,if_true,if_false,not_true_eq_false,List.append_eq]
 refine VPure.of i3 ?_
 simp(maxSteps:=9^9)only[↓VX,VQ,seval,Int.reduceEq,eq_self,decide_true,decide_false,if_true,if_false,not_true_eq_false,List.append_eq]
 refine VPure.of i4 ?_
 simp(maxSteps:=9^9)only[↓VX,VQ,seval,Int.reduceEq,eq_self,decide_true,decide_false,if_true,if_false,not_true_eq_false,List.append_eq]
 refine VPure.of i4 ?_
 simp(maxSteps:=9^9)only[↓VX,VQ,seval,Int.reduceEq,eq_self,decide_true,decide_false,if_true,if_false,not_true_eq_false,List.append_eq]
 refine VPure.of i1 ?_
 simp(maxSteps:=9^9)only[↓VX,VQ,seval,Int.reduceEq,eq_self,decide_true,decide_false,if_true,if_false,not_true_eq_false,List.append_eq]
 refine VPure.of s1 ?_
 simp(maxSteps:=9^9)only[↓VX,VQ,seval,Int.reduceEq,eq_self,decide_true,decide_false,if_true,if_false,not_true_eq_false,List.append_eq]
 refine ⟨eqs,?_⟩
 refine VPure.of i5 ?_
 simp(maxSteps:=9^9)only[↓VX,VQ,seval,Int.reduceEq,eq_self,decide_true,decide_false,if_true,if_false,not_true_eq_false,List.append_eq]
end Go.Proofs.Ytikodjpbknneoaa.Abs
