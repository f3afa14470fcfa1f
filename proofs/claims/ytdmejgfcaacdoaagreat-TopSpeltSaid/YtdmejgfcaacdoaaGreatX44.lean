/- Lemmas for the statements of this seat (X44): they hold without conditions beyond those that each one states. -/
import Derived.Test.YtdmejgfcaacdoaaGreatX43
import Derived.Test.YtdmejgfcaacdoaaGreatX32
/- The walk: TopSpelt. -/
namespace Go.Proofs.YtdmejgfcaacdoaaGreat.Abs
set_option linter.unusedSimpArgs false
set_option maxHeartbeats 4000000
set_option maxRecDepth 100000
open Go Go.RowKit Go.Proofs
def hearX (x y : List Nat) (a0 a1 : Nat) (w : List Nat) : AV := .agg [.slice 1 (bytes8 x),.slice 1 (bytes8 y),.int .u8 a0,.int .u8 a1,.slice 1 (bytes8 w)]
theorem vidx2_1 (a b : AV) (K : AV → Prop) : VIdx [a,b] 1 K = K b := by simp [VIdx]
theorem checkE_err (b : REar) : (checkE b).2.2 ≠ 0 → (spellR b 0 []).2 ≠ 0 := fun h => by
 unfold spellR
 have e : enterE1 b b.alphabets.length [0] = (checkE b).2.2 := by
  unfold enterE1
  rw [if_pos h]
 rw [if_pos (by rw [e]; exact h),e]
 exact h
theorem topSpelt_c (b : REar) (hf : earFit b) (x y w : List Nat) (a0 a1 : Nat) (hx : ∀ n ∈ x,n < 256) (hy : ∀ n ∈ y,n < 256) (hw : ∀ n ∈ w,n < 256) (ha0 : a0 < 256) (ha1 : a1 < 256) (m : Mem) :
  ACall Tryz.prog 4 [earA b,hearX x y a0 a1 w] m fun r _ => r = .bool true := by
 have c1 := refcheck1_c b hf
 have w1 := earawake_c
 have w2 := letawake_c
 by_cases h0 : (checkE b).2.2 = 0
 rotate_left
 ·have c2 := spell_c b hf 0 []
  have h1 := checkE_err b h0
  obtain ⟨E,hE⟩ : ∃ E,E = checkE b := ⟨_,rfl⟩
  rw [← hE] at c1 h0
  obtain ⟨R,hR⟩ : ∃ R,R = spellR b 0 [] := ⟨_,rfl⟩
  rw [← hR] at c2 h1
  have x0 : (E.2.2 = 0) = False := eq_false h0
  have x1 : (R.2 = 0) = False := eq_false h1
  simp only [earA,earL,hearX,ints,List.map_nil] at c1 c2 ⊢
  (refine acall_intro (E := envC (modeAt [10,28] []) false []) (envCOk _ _ _) rfl Tryz.func4 rfl Tryz.call4 (by kernel_rfl) (by simp [Tryz.ntmps4]) ?_; simp only [Tryz.f4];  simp(maxSteps:=9^9)only[↓VX,VQ,seval,])
  refine ACall.pure c1 ?_
  simp(maxSteps:=9^9)only[↓VX,VQ,seval,x0]
  (refine ACall.pure (c2) ?_; try simp(maxSteps:=9^9)only[↓VX,VQ,seval])
  simp(maxSteps:=9^9)only[↓VX,VQ,seval,x1]
  (refine ACall.pure (w1) ?_; try simp(maxSteps:=9^9)only[↓VX,VQ,seval])
  (refine ACall.pure (w2) ?_; try simp(maxSteps:=9^9)only[↓VX,VQ,seval])
 have x0 : ((checkE b).2.2 = 0) = True := eq_true h0
 obtain ⟨p1,p2,p3,p4,p5⟩ := checkE_parts h0
 obtain ⟨X5,Xk⟩ := snds_ok b p1 x
 obtain ⟨Y5,Yk⟩ := snds_ok b p1 y
 have s1 := topsounds_c b p1 x hx
 have s2 := topsounds_c b p1 y hy
 obtain ⟨X,hX⟩ : ∃ X,X = sndsOf b x (min x.length 5) := ⟨_,rfl⟩
 obtain ⟨Y,hY⟩ : ∃ Y,Y = sndsOf b y (min y.length 5) := ⟨_,rfl⟩
 rw [← hX] at X5 Xk s1
 rw [← hY] at Y5 Yk s2
 obtain ⟨q0,hq0⟩ : ∃ q,q = a0 % b.alphabets.length := ⟨_,rfl⟩
 obtain ⟨q1,hq1⟩ : ∃ q,q = a1 % b.alphabets.length := ⟨_,rfl⟩
 have hq0l : q0 < b.alphabets.length := by rw [hq0]; exact Nat.mod_lt _ (by omega)
 have hq1l : q1 < b.alphabets.length := by rw [hq1]; exact Nat.mod_lt _ (by omega)
 have m0 : (a0 : Int) % (b.alphabets.length : Int) = (q0 : Int) := by rw [hq0]; rfl
 have m1 : (a1 : Int) % (b.alphabets.length : Int) = (q1 : Int) := by rw [hq1]; rfl
 have d1 := spell_c b hf q0 (intsN X)
 have d2 := spell_c b hf q1 (intsN Y)
 have e1 := spelt_cases h0 hq0l X5 Xk
 have e2 := spelt_cases h0 hq1l Y5 Yk
 have f1 := shelfX_c
 obtain ⟨A,t,hAt,ht,htl⟩ := any_note hw
 have f2 := any_c (shelfX.forms[1]!) (by decide +kernel) note_roomsOk w hw
 rw [hAt] at f2
 obtain ⟨R1,hR1⟩ : ∃ R,R = spellR b q0 (intsN X) := ⟨_,rfl⟩
 obtain ⟨R2,hR2⟩ : ∃ R,R = spellR b q1 (intsN Y) := ⟨_,rfl⟩
 rw [← hR1] at d1 e1
 rw [← hR2] at d2 e2
 have hbx : (bytes8 x).length = x.length := by unfold bytes8; rw [List.length_map]
 generalize checkE b = E at c1 x0
 simp only [rowsW,strs,List.map_cons,List.map_nil] at f2
 simp only [earA,earL,hearX,ints,shelfA,shelfL] at c1 s1 s2 d1 d2 f1 f2 ⊢
 (refine acall_intro (E := envC (modeAt [10,28] []) false []) (envCOk _ _ _) rfl Tryz.func4 rfl Tryz.call4 (by kernel_rfl) (by simp [Tryz.ntmps4]) ?_; simp only [Tryz.f4];  simp(maxSteps:=9^9)only[↓VX,VQ,seval,])
 refine ACall.pure c1 ?_
 simp(maxSteps:=9^9)only[↓VX,VQ,seval,x0]
 (refine ACall.pure (f1) ?_; try simp(maxSteps:=9^9)only[↓VX,VQ,seval])
 (refine adraw (by first | exact envOk _ | exact envCOk _ _ _) mixed [⟨false,false,0⟩,⟨false,false,0⟩,⟨false,false,0⟩,⟨false,false,0⟩,⟨false,false,0⟩,⟨false,false,0⟩,⟨false,false,0⟩,⟨false,false,0⟩] (by kernel_rfl) ?_; show vcOpsD _ _ _ (_ :: _) _ _)
 simp(maxSteps:=9^9)only[↓VX,VQ,seval,ixForm]
 have hf3 : 1 < shelfX.forms.length := by decide
 refine ⟨hf3,_,.inl f2,?_⟩
 simp(maxSteps:=9^9)only[↓VX,VQ,seval]
 intro _
 (refine adraw (by first | exact envOk _ | exact envCOk _ _ _) mixed [⟨false,false,0⟩,⟨false,false,0⟩,⟨false,false,0⟩,⟨false,false,0⟩,⟨false,false,0⟩,⟨false,false,0⟩,⟨false,false,0⟩,⟨false,false,0⟩,⟨false,false,0⟩,⟨false,false,0⟩,⟨false,false,0⟩,⟨false,false,0⟩,⟨false,false,0⟩,⟨false,false,0⟩,⟨false,false,0⟩,⟨false,false,0⟩,⟨false,false,0⟩] (by kernel_rfl) ?_; show vcOpsD _ _ _ (_ :: _) _ _)
 simp(maxSteps:=9^9)only[↓VX,VQ,seval]
 refine ⟨⟨by omega,by omega⟩,⟨by omega,by omega⟩,_,.inl s1,?_⟩
 simp(maxSteps:=9^9)only[↓VX,VQ,seval,m0]
 refine ⟨_,.inl d1,?_⟩
 simp(maxSteps:=9^9)only[↓VX,VQ,seval]
 (refine adraw (by first | exact envOk _ | exact envCOk _ _ _) mixed [⟨false,false,0⟩,⟨false,false,0⟩,⟨false,false,0⟩,⟨false,false,0⟩,⟨false,false,0⟩,⟨false,false,0⟩,⟨false,false,0⟩,⟨false,false,0⟩,⟨false,false,0⟩,⟨false,false,0⟩,⟨false,false,0⟩,⟨false,false,0⟩,⟨false,false,0⟩,⟨false,false,0⟩,⟨false,false,0⟩,⟨false,false,0⟩,⟨false,false,0⟩] (by kernel_rfl) ?_; show vcOpsD _ _ _ (_ :: _) _ _)
 simp(maxSteps:=9^9)only[↓VX,VQ,seval]
 refine ⟨⟨by omega,by omega⟩,⟨by omega,by omega⟩,_,.inl s2,?_⟩
 simp(maxSteps:=9^9)only[↓VX,VQ,seval,m1]
 refine ⟨_,.inl d2,?_⟩
 rcases e1 with rfl | ⟨u,rfl,u1,u2⟩
 ·simp(maxSteps:=9^9)only[↓VX,VQ,seval]
  (refine ACall.pure (w1) ?_; try simp(maxSteps:=9^9)only[↓VX,VQ,seval])
  (refine ACall.pure (w2) ?_; try simp(maxSteps:=9^9)only[↓VX,VQ,seval])
 rcases e2 with rfl | ⟨v,rfl,v1,v2⟩
 ·simp(maxSteps:=9^9)only[↓VX,VQ,seval]
  (refine ACall.pure (w1) ?_; try simp(maxSteps:=9^9)only[↓VX,VQ,seval])
  (refine ACall.pure (w2) ?_; try simp(maxSteps:=9^9)only[↓VX,VQ,seval])
 have uf : sizesFit [u] := words_fit (l := [u]) (by simp [wordsB,u1])
 have vf : sizesFit [v] := words_fit (l := [v]) (by simp [wordsB,v1])
 have tf := words_fit ht
 have g1 := refWord_c u (uf u (by simp))
 have g2 := refWord_c v (vf v (by simp))
 rw [u1] at g1
 rw [v1] at g2
 have rfu : rowsFit [[u],t] := fun r hr => by rcases List.mem_cons.1 hr with rfl | hr; (· exact uf); rw [List.mem_singleton.1 hr]; exact tf
 have rfv : rowsFit [[v],t] := fun r hr => by rcases List.mem_cons.1 hr with rfl | hr; (· exact vf); rw [List.mem_singleton.1 hr]; exact tf
 have k1 := make_c shelfX shelfX_fit 1 [[u],t] rfu
 rw [note_make u1 ht htl] at k1
 have k2 := make_c shelfX shelfX_fit 1 [[v],t] rfv
 rw [note_make v1 ht htl] at k2
 have lu := note_words u1 ht
 have lv := note_words v1 ht
 obtain ⟨rw1,rw2⟩ := read_write shelfX_ok (note_let u1 ht htl)
 have k3 := write_c shelfX shelfX_fit (noteL u t) (words_fit lu)
 rw [rw1] at k3
 have k4 := read_c shelfX shelfX_fit (textOf shelfX.width (noteL u t)) (by have := (textOf_bytes shelfX.width lu).2; have h2 : (noteL u t).length = t.length + 3 := rfl; omega)
 rw [rw2] at k4
 have k5 := fewest_c (noteL u t) (noteL v t) (words_fit lu) (words_fit lv)
 have k5e : fewestR (noteL u t) (noteL v t) = (marksOf ((noteL u t).length + (noteL v t).length) (noteL u t) (noteL v t),((dist (noteL u t) (noteL v t) : Nat) : Int),(0 : Int)) := by
  unfold fewestR
  rw [if_neg (by rw [note_let u1 ht htl]; simp),if_neg (by rw [note_let v1 ht htl]; simp)]
 rw [k5e] at k5
 have wt : wordsB (wI :: wAsk :: t) = true := by
  have h3 := note_words u1 ht
  unfold wordsB noteL at h3
  rw [List.all_cons,Bool.and_eq_true] at h3
  exact h3.2
 have n1 : dist (noteL u t) (noteL v t) ≤ 1 := dist_one wt
 have n2 : dist (noteL u t) (noteL v t) = 0 ↔ u = v := dist_names v1 wt
 have k6 := same_c (noteL u t) (noteL u t)
 rw [decide_eq_true rfl] at k6
 have k7 := reads_c { b with spellings := [⟨q0,u⟩] } ⟨hf.a,fun z hz => by rw [List.mem_singleton.1 hz]; exact uf u (by simp)⟩ 0 (intsN X)
 rw [u2] at k7
 obtain ⟨D,hD⟩ : ∃ D,D = dist (noteL u t) (noteL v t) := ⟨_,rfl⟩
 generalize marksOf ((noteL u t).length + (noteL v t).length) (noteL u t) (noteL v t) = Q at k5
 rw [← hD] at k5 n1 n2
 obtain ⟨T,hT⟩ : ∃ T,T = textOf shelfX.width (noteL u t) := ⟨_,rfl⟩
 rw [← hT] at k3 k4
 obtain ⟨N,hN⟩ : ∃ N,N = noteL u t := ⟨_,rfl⟩
 have hNh : N = u :: (wI :: wAsk :: t) := hN
 rw [← hN] at k1 k3 k4 k5 k6
 generalize noteL v t = N' at k2 k5
 have hni : N[0]! = u := by rw [hNh]; rfl
 have hnl : 0 < N.length := by rw [hNh]; simp
 simp only [shelfA,shelfL,rowsW,strs,List.map_cons,List.map_nil,marksA] at k1 k2 k3 k4 k5 k6
 simp only [earA,earL,ints,List.map_cons,List.map_nil,spelA] at k7
 simp(maxSteps:=9^9)only[↓VX,VQ,seval]
 (refine ACall.pure (g1) ?_; try simp(maxSteps:=9^9)only[↓VX,VQ,seval])
 (refine ACall.pure (g2) ?_; try simp(maxSteps:=9^9)only[↓VX,VQ,seval])
 (refine adraw (by first | exact envOk _ | exact envCOk _ _ _) mixed [⟨false,false,0⟩,⟨false,false,0⟩,⟨false,false,0⟩,⟨false,false,0⟩,⟨false,false,0⟩,⟨false,false,0⟩,⟨false,false,0⟩,⟨false,false,0⟩,⟨false,false,0⟩,⟨false,false,0⟩,⟨false,false,0⟩,⟨false,false,0⟩,⟨false,false,0⟩] (by kernel_rfl) ?_; show vcOpsD _ _ _ (_ :: _) _ _)
 simp(maxSteps:=9^9)only[↓VX,VQ,seval,↓vidx2_1]
 refine ⟨_,.inl k1,?_⟩
 simp(maxSteps:=9^9)only[↓VX,VQ,seval]
 (refine adraw (by first | exact envOk _ | exact envCOk _ _ _) mixed [⟨false,false,0⟩,⟨false,false,0⟩,⟨false,false,0⟩,⟨false,false,0⟩,⟨false,false,0⟩,⟨false,false,0⟩,⟨false,false,0⟩,⟨false,false,0⟩,⟨false,false,0⟩,⟨false,false,0⟩,⟨false,false,0⟩,⟨false,false,0⟩,⟨false,false,0⟩] (by kernel_rfl) ?_; show vcOpsD _ _ _ (_ :: _) _ _)
 simp(maxSteps:=9^9)only[↓VX,VQ,seval,↓vidx2_1]
 refine ⟨_,.inl k2,?_⟩
 simp(maxSteps:=9^9)only[↓VX,VQ,seval]
 (refine ACall.pure (k3) ?_; try simp(maxSteps:=9^9)only[↓VX,VQ,seval])
 (refine ACall.pure (k4) ?_; try simp(maxSteps:=9^9)only[↓VX,VQ,seval])
 (refine ACall.pure (k5) ?_; try simp(maxSteps:=9^9)only[↓VX,VQ,seval])
 have zN : ((N.length : Int) = 0) = False := eq_false (by omega)
 have zD1 : ((1 : Int) < (D : Int)) = False := eq_false (by omega)
 have hDu : ((D : Int) = 0 ∧ u = v) ∨ (¬ (D : Int) = 0 ∧ ¬ u = v) := by
  by_cases q : u = v
  ·exact .inl ⟨by have := n2.2 q; omega,q⟩
  ·exact .inr ⟨fun e => q (n2.1 (by omega)),q⟩
 refine Or.elim hDu (fun hD2 => ?_) (fun hD2 => ?_)
 ·have zD : ((D : Int) = 0) = True := eq_true hD2.1
  have zu : (u = v) = True := eq_true hD2.2
  refine ACall.pure k6 ?_
  simp(maxSteps:=9^9)only[↓VX,VQ,seval,zN,zD,zu,zD1]
  intro _
  (refine adraw (by first | exact envOk _ | exact envCOk _ _ _) mixed [⟨false,false,0⟩,⟨false,false,0⟩,⟨false,false,0⟩,⟨false,false,0⟩,⟨false,false,0⟩,⟨false,false,0⟩,⟨false,false,0⟩,⟨false,false,0⟩,⟨false,false,0⟩,⟨false,false,0⟩,⟨false,false,0⟩,⟨false,false,0⟩,⟨false,false,0⟩] (by kernel_rfl) ?_; show vcOpsD _ _ _ (_ :: _) _ _)
  simp(maxSteps:=9^9)only[↓VX,VQ,seval,m0,hni,buildV]
  refine ⟨⟨by omega,by omega⟩,⟨by omega,by omega⟩,hnl,?_⟩
  (refine adraw (by first | exact envOk _ | exact envCOk _ _ _) mixed [⟨false,false,0⟩,⟨false,false,0⟩,⟨false,false,0⟩,⟨false,false,0⟩,⟨false,false,0⟩,⟨false,false,0⟩,⟨false,false,0⟩,⟨false,false,0⟩,⟨false,false,0⟩,⟨false,false,0⟩,⟨false,false,0⟩] (by kernel_rfl) ?_; show vcOpsD _ _ _ (_ :: _) _ _)
  simp(maxSteps:=9^9)only[↓VX,VQ,seval]
  refine ⟨_,.inl s1,?_⟩
  simp(maxSteps:=9^9)only[↓VX,VQ,seval]
  refine ⟨_,.inl k7,?_⟩
  simp(maxSteps:=9^9)only[↓VX,VQ,seval]
  (refine ACall.pure (w1) ?_; try simp(maxSteps:=9^9)only[↓VX,VQ,seval])
  (refine ACall.pure (w2) ?_; try simp(maxSteps:=9^9)only[↓VX,VQ,seval])
 ·have zD : ((D : Int) = 0) = False := eq_false hD2.1
  have zu : (u = v) = False := eq_false hD2.2
  refine ACall.pure k6 ?_
  simp(maxSteps:=9^9)only[↓VX,VQ,seval,zN,zD,zu,zD1]
  intro _
  (refine adraw (by first | exact envOk _ | exact envCOk _ _ _) mixed [⟨false,false,0⟩,⟨false,false,0⟩,⟨false,false,0⟩,⟨false,false,0⟩,⟨false,false,0⟩,⟨false,false,0⟩,⟨false,false,0⟩,⟨false,false,0⟩,⟨false,false,0⟩,⟨false,false,0⟩,⟨false,false,0⟩,⟨false,false,0⟩,⟨false,false,0⟩] (by kernel_rfl) ?_; show vcOpsD _ _ _ (_ :: _) _ _)
  simp(maxSteps:=9^9)only[↓VX,VQ,seval,m0,hni,buildV]
  refine ⟨⟨by omega,by omega⟩,⟨by omega,by omega⟩,hnl,?_⟩
  (refine adraw (by first | exact envOk _ | exact envCOk _ _ _) mixed [⟨false,false,0⟩,⟨false,false,0⟩,⟨false,false,0⟩,⟨false,false,0⟩,⟨false,false,0⟩,⟨false,false,0⟩,⟨false,false,0⟩,⟨false,false,0⟩,⟨false,false,0⟩,⟨false,false,0⟩,⟨false,false,0⟩] (by kernel_rfl) ?_; show vcOpsD _ _ _ (_ :: _) _ _)
  simp(maxSteps:=9^9)only[↓VX,VQ,seval]
  refine ⟨_,.inl s1,?_⟩
  simp(maxSteps:=9^9)only[↓VX,VQ,seval]
  refine ⟨_,.inl k7,?_⟩
  simp(maxSteps:=9^9)only[↓VX,VQ,seval]
  (refine ACall.pure (w1) ?_; try simp(maxSteps:=9^9)only[↓VX,VQ,seval])
  (refine ACall.pure (w2) ?_; try simp(maxSteps:=9^9)only[↓VX,VQ,seval])
end Go.Proofs.YtdmejgfcaacdoaaGreat.Abs
