/- Lemmas for the statements of this seat (X31): they hold without conditions beyond those that each one states. -/
import Derived.Test.YtdmejgfcaacdoaaGreatX26
import Derived.Test.YtdmejgfcaacdoaaGreatX25
/- Contracts: Apply at the letter and marks of the examples. -/
namespace Go.Proofs.YtdmejgfcaacdoaaGreat.Abs
set_option linter.unusedSimpArgs false
set_option maxHeartbeats 4000000
set_option maxRecDepth 100000
open Go Go.RowKit Go.Proofs
theorem letX_fit : sizesFit letX := by
 intro s hs
 simp only [letX,List.mem_cons,List.not_mem_nil,or_false] at hs
 rcases hs with rfl | rfl | rfl | rfl | rfl | rfl <;> decide
theorem letY_fit : sizesFit letY := by
 intro s hs
 simp only [letY,List.mem_cons,List.not_mem_nil,or_false] at hs
 rcases hs with rfl | rfl | rfl | rfl | rfl | rfl <;> decide
def apAt : Nat → Int
 | 0 => 0 | 1 => 1 | 2 => 2 | 3 => 3 | 4 => 4 | 5 => 5 | 6 => 5 | _ => 6
def apNow : Nat → List ByteArray
 | 0 => [] | 1 => [wTo] | 2 => [wTo] | 3 => [wTo,wJudge] | 4 => [wTo,wJudge,wI] | 5 => [wTo,wJudge,wI,wAsk] | 6 => [wTo,wJudge,wI,wAsk,wFor] | _ => letY
theorem applyX_c : PCall Tryz.prog 34 [strs letX,marksA marksX] (.tuple [strs letY,.int .i64 0]) := by
 intro m
 have hle := lettered_c letX letX_fit
 rw [letX_ok] at hle
 have hof := fun (x : Int) => letoff_c 0 3 [x]
 simp only [ints,List.map_cons,List.map_nil,List.any_cons,List.any_nil,Bool.or_false] at hof
 have h0 := hof 0
 have h2 := hof 2
 have h3 := hof 3
 rw [show offP 0 3 0 = false by decide] at h0
 rw [show offP 0 3 2 = false by decide] at h2
 rw [show offP 0 3 3 = false by decide] at h3
 have hac := acts_c
 have hw := word_c wFor (by decide)
 rw [show wordB wFor = true by decide +kernel] at hw
 have f1 := acts1_c
 have f3 := acts3_c
 have f4 := acts4_c
 have hne : (wFor = ByteArray.empty) = False := eq_false (by decide)
 simp only [strs,marksA,marksX,markA,List.map_cons,List.map_nil,actsL] at hle hac f1 f3 f4 ⊢
 have hX : letX.length = 6 := rfl
 have hE0 : (ByteArray.empty = (⟨#[]⟩ : ByteArray)) = True := eq_true rfl
 have x0 : letX[0]! = wTo := rfl
 have x2 : letX[2]! = wJudge := rfl
 have x3 : letX[3]! = wI := rfl
 have x4 : letX[4]! = wAsk := rfl
 have x5 : letX[5]! = wMercy := rfl
 refine ACall.forget ?_
 (refine acall_intro (E := envC (modeAt [9] [8]) false []) (envCOk _ _ _) rfl Tryz.func34 rfl Tryz.call34 (by kernel_rfl) (by simp [Tryz.ntmps34]) ?_; simp only [Tryz.f34];  simp(maxSteps:=9^9)only[↓VX,VQ,seval])
 (refine ACall.pure (hle) ?_; try simp(maxSteps:=9^9)only[↓VX,VQ,seval])
 repeat'(first|intro _|apply And.intro)
 all_goals try first|omega|(simp only[LL];omega)|exact nlC (by decide) _|exact nbC rfl
 refine aloop (envCOk _ _ _) (fun q : Nat × Mem => ⟨[(0,.v (.slice 1 (letX.map AV.str))),(4,.v (.slice 1 ((apNow q.1).map AV.str))),(6,.v (.int .i64 (apAt q.1))),(21,.v (.slice 2 [.agg [.int .i64 0,.str ByteArray.empty],.agg [.int .i64 2,.str ByteArray.empty],.agg [.int .i64 0,.str ByteArray.empty],.agg [.int .i64 0,.str ByteArray.empty],.agg [.int .i64 0,.str ByteArray.empty],.agg [.int .i64 3,.str wFor],.agg [.int .i64 0,.str ByteArray.empty]])),(22,.v (.int .i64 7)),(23,.v (.int .i64 q.1))],[4],[],q.2⟩)
  (fun q => q.1 ≤ 7 ∧ ∀ j y,m j = some y → q.2 j = some y) (fun q => 7 - q.1) (0,m) (fun _ => rfl) ⟨Nat.zero_le _,fun _ _ h => h⟩ (by (simp only [FE,↓FP,seval]); try simp [apNow,apAt]) ?_
 rintro ⟨k,mm⟩ ⟨hk,hsub⟩
 dsimp only at hk hsub
 have hk7 : k = 0 ∨ k = 1 ∨ k = 2 ∨ k = 3 ∨ k = 4 ∨ k = 5 ∨ k = 6 ∨ k = 7 := by omega
 rcases hk7 with rfl | rfl | rfl | rfl | rfl | rfl | rfl | rfl
 ·simp(maxSteps:=9^9)only[↓VX,VQ,seval]
  refine ⟨_,rfl,by decide,?_⟩
  simp(maxSteps:=9^9)only[↓VX,VQ,seval]
  intro b hb
  refine ACall.pure h0 ?_
  simp(maxSteps:=9^9)only[↓VX,VQ,seval]
  (refine adraw (by first | exact envOk _ | exact envCOk _ _ _) mixed [⟨true,false,0⟩,⟨true,false,0⟩,⟨true,false,3⟩,⟨true,false,0⟩,⟨false,false,0⟩,⟨false,false,0⟩,⟨true,false,0⟩] (by kernel_rfl) ?_; show vcOpsD _ _ _ (_ :: _) _ _)
  simp(maxSteps:=9^9)only[↓VX,VQ,seval,hidM,isLook,maskM]
  refine ⟨_,.inl hac,?_⟩
  simp(maxSteps:=9^9)only[↓VX,VQ,seval,hidM,isLook,maskM,apAt,hX,hE0,x0,x2,x3,x4,x5,hne,Int.reduceLT,Int.reduceLE,Int.toNat_zero,Int.reduceEq,Int.reduceToNat,Int.reduceAdd]
  refine ACall.pure (f1 _ _) ?_
  simp(maxSteps:=9^9)only[↓VX,VQ,seval,hidM,isLook,maskM,apAt,hX,hE0,x0,x2,x3,x4,x5,hne,Int.reduceLT,Int.reduceLE,Int.toNat_zero,Int.reduceEq,Int.reduceToNat,Int.reduceAdd]
  refine ⟨by decide,⟨(1,upd (upd mm b (some (.cells [.int .i64 0,.str ByteArray.empty]))) b (some (.cells [.int .i64 0,.str ByteArray.empty]))),⟨by dsimp only; omega,fun j y hy => ?_⟩,by dsimp only; omega,?_⟩⟩
  ·have n1 : j ≠ b := by rintro rfl; rw [hsub _ _ hy] at hb; cases hb
   dsimp only
   rw [upd_ne _ _ n1,upd_ne _ _ n1]; exact hsub j y hy
  ·(simp only [FE,↓FP,seval])
   rfl
 ·simp(maxSteps:=9^9)only[↓VX,VQ,seval]
  refine ⟨_,rfl,by decide,?_⟩
  simp(maxSteps:=9^9)only[↓VX,VQ,seval]
  intro b hb
  refine ACall.pure h2 ?_
  simp(maxSteps:=9^9)only[↓VX,VQ,seval]
  (refine adraw (by first | exact envOk _ | exact envCOk _ _ _) mixed [⟨true,false,0⟩,⟨true,false,0⟩,⟨true,false,3⟩,⟨true,false,0⟩,⟨false,false,0⟩,⟨false,false,0⟩,⟨true,false,0⟩] (by kernel_rfl) ?_; show vcOpsD _ _ _ (_ :: _) _ _)
  simp(maxSteps:=9^9)only[↓VX,VQ,seval,hidM,isLook,maskM]
  refine ⟨_,.inl hac,?_⟩
  simp(maxSteps:=9^9)only[↓VX,VQ,seval,hidM,isLook,maskM,apAt,hX,hE0,x0,x2,x3,x4,x5,hne,Int.reduceLT,Int.reduceLE,Int.toNat_zero,Int.reduceEq,Int.reduceToNat,Int.reduceAdd]
  refine ACall.pure (f3 _ _) ?_
  simp(maxSteps:=9^9)only[↓VX,VQ,seval,hidM,isLook,maskM,apAt,hX,hE0,x0,x2,x3,x4,x5,hne,Int.reduceLT,Int.reduceLE,Int.toNat_zero,Int.reduceEq,Int.reduceToNat,Int.reduceAdd]
  refine ⟨by decide,⟨(2,upd (upd mm b (some (.cells [.int .i64 0,.str ByteArray.empty]))) b (some (.cells [.int .i64 2,.str ByteArray.empty]))),⟨by dsimp only; omega,fun j y hy => ?_⟩,by dsimp only; omega,?_⟩⟩
  ·have n1 : j ≠ b := by rintro rfl; rw [hsub _ _ hy] at hb; cases hb
   dsimp only
   rw [upd_ne _ _ n1,upd_ne _ _ n1]; exact hsub j y hy
  ·(simp only [FE,↓FP,seval])
   rfl
 ·simp(maxSteps:=9^9)only[↓VX,VQ,seval]
  refine ⟨_,rfl,by decide,?_⟩
  simp(maxSteps:=9^9)only[↓VX,VQ,seval]
  intro b hb
  refine ACall.pure h0 ?_
  simp(maxSteps:=9^9)only[↓VX,VQ,seval]
  (refine adraw (by first | exact envOk _ | exact envCOk _ _ _) mixed [⟨true,false,0⟩,⟨true,false,0⟩,⟨true,false,3⟩,⟨true,false,0⟩,⟨false,false,0⟩,⟨false,false,0⟩,⟨true,false,0⟩] (by kernel_rfl) ?_; show vcOpsD _ _ _ (_ :: _) _ _)
  simp(maxSteps:=9^9)only[↓VX,VQ,seval,hidM,isLook,maskM]
  refine ⟨_,.inl hac,?_⟩
  simp(maxSteps:=9^9)only[↓VX,VQ,seval,hidM,isLook,maskM,apAt,hX,hE0,x0,x2,x3,x4,x5,hne,Int.reduceLT,Int.reduceLE,Int.toNat_zero,Int.reduceEq,Int.reduceToNat,Int.reduceAdd]
  refine ACall.pure (f1 _ _) ?_
  simp(maxSteps:=9^9)only[↓VX,VQ,seval,hidM,isLook,maskM,apAt,hX,hE0,x0,x2,x3,x4,x5,hne,Int.reduceLT,Int.reduceLE,Int.toNat_zero,Int.reduceEq,Int.reduceToNat,Int.reduceAdd]
  refine ⟨by decide,⟨(3,upd (upd mm b (some (.cells [.int .i64 0,.str ByteArray.empty]))) b (some (.cells [.int .i64 0,.str ByteArray.empty]))),⟨by dsimp only; omega,fun j y hy => ?_⟩,by dsimp only; omega,?_⟩⟩
  ·have n1 : j ≠ b := by rintro rfl; rw [hsub _ _ hy] at hb; cases hb
   dsimp only
   rw [upd_ne _ _ n1,upd_ne _ _ n1]; exact hsub j y hy
  ·(simp only [FE,↓FP,seval])
   rfl
 ·simp(maxSteps:=9^9)only[↓VX,VQ,seval]
  refine ⟨_,rfl,by decide,?_⟩
  simp(maxSteps:=9^9)only[↓VX,VQ,seval]
  intro b hb
  refine ACall.pure h0 ?_
  simp(maxSteps:=9^9)only[↓VX,VQ,seval]
  (refine adraw (by first | exact envOk _ | exact envCOk _ _ _) mixed [⟨true,false,0⟩,⟨true,false,0⟩,⟨true,false,3⟩,⟨true,false,0⟩,⟨false,false,0⟩,⟨false,false,0⟩,⟨true,false,0⟩] (by kernel_rfl) ?_; show vcOpsD _ _ _ (_ :: _) _ _)
  simp(maxSteps:=9^9)only[↓VX,VQ,seval,hidM,isLook,maskM]
  refine ⟨_,.inl hac,?_⟩
  simp(maxSteps:=9^9)only[↓VX,VQ,seval,hidM,isLook,maskM,apAt,hX,hE0,x0,x2,x3,x4,x5,hne,Int.reduceLT,Int.reduceLE,Int.toNat_zero,Int.reduceEq,Int.reduceToNat,Int.reduceAdd]
  refine ACall.pure (f1 _ _) ?_
  simp(maxSteps:=9^9)only[↓VX,VQ,seval,hidM,isLook,maskM,apAt,hX,hE0,x0,x2,x3,x4,x5,hne,Int.reduceLT,Int.reduceLE,Int.toNat_zero,Int.reduceEq,Int.reduceToNat,Int.reduceAdd]
  refine ⟨by decide,⟨(4,upd (upd mm b (some (.cells [.int .i64 0,.str ByteArray.empty]))) b (some (.cells [.int .i64 0,.str ByteArray.empty]))),⟨by dsimp only; omega,fun j y hy => ?_⟩,by dsimp only; omega,?_⟩⟩
  ·have n1 : j ≠ b := by rintro rfl; rw [hsub _ _ hy] at hb; cases hb
   dsimp only
   rw [upd_ne _ _ n1,upd_ne _ _ n1]; exact hsub j y hy
  ·(simp only [FE,↓FP,seval])
   rfl
 ·simp(maxSteps:=9^9)only[↓VX,VQ,seval]
  refine ⟨_,rfl,by decide,?_⟩
  simp(maxSteps:=9^9)only[↓VX,VQ,seval]
  intro b hb
  refine ACall.pure h0 ?_
  simp(maxSteps:=9^9)only[↓VX,VQ,seval]
  (refine adraw (by first | exact envOk _ | exact envCOk _ _ _) mixed [⟨true,false,0⟩,⟨true,false,0⟩,⟨true,false,3⟩,⟨true,false,0⟩,⟨false,false,0⟩,⟨false,false,0⟩,⟨true,false,0⟩] (by kernel_rfl) ?_; show vcOpsD _ _ _ (_ :: _) _ _)
  simp(maxSteps:=9^9)only[↓VX,VQ,seval,hidM,isLook,maskM]
  refine ⟨_,.inl hac,?_⟩
  simp(maxSteps:=9^9)only[↓VX,VQ,seval,hidM,isLook,maskM,apAt,hX,hE0,x0,x2,x3,x4,x5,hne,Int.reduceLT,Int.reduceLE,Int.toNat_zero,Int.reduceEq,Int.reduceToNat,Int.reduceAdd]
  refine ACall.pure (f1 _ _) ?_
  simp(maxSteps:=9^9)only[↓VX,VQ,seval,hidM,isLook,maskM,apAt,hX,hE0,x0,x2,x3,x4,x5,hne,Int.reduceLT,Int.reduceLE,Int.toNat_zero,Int.reduceEq,Int.reduceToNat,Int.reduceAdd]
  refine ⟨by decide,⟨(5,upd (upd mm b (some (.cells [.int .i64 0,.str ByteArray.empty]))) b (some (.cells [.int .i64 0,.str ByteArray.empty]))),⟨by dsimp only; omega,fun j y hy => ?_⟩,by dsimp only; omega,?_⟩⟩
  ·have n1 : j ≠ b := by rintro rfl; rw [hsub _ _ hy] at hb; cases hb
   dsimp only
   rw [upd_ne _ _ n1,upd_ne _ _ n1]; exact hsub j y hy
  ·(simp only [FE,↓FP,seval])
   rfl
 ·simp(maxSteps:=9^9)only[↓VX,VQ,seval]
  refine ⟨_,rfl,by decide,?_⟩
  simp(maxSteps:=9^9)only[↓VX,VQ,seval]
  intro b hb
  refine ACall.pure h3 ?_
  simp(maxSteps:=9^9)only[↓VX,VQ,seval]
  (refine adraw (by first | exact envOk _ | exact envCOk _ _ _) mixed [⟨true,false,0⟩,⟨true,false,0⟩,⟨true,false,3⟩,⟨true,false,0⟩,⟨false,false,0⟩,⟨false,false,0⟩,⟨true,false,0⟩] (by kernel_rfl) ?_; show vcOpsD _ _ _ (_ :: _) _ _)
  simp(maxSteps:=9^9)only[↓VX,VQ,seval,hidM,isLook,maskM]
  refine ⟨_,.inl hac,?_⟩
  simp(maxSteps:=9^9)only[↓VX,VQ,seval,hidM,isLook,maskM,apAt,hX,hE0,x0,x2,x3,x4,x5,hne,Int.reduceLT,Int.reduceLE,Int.toNat_zero,Int.reduceEq,Int.reduceToNat,Int.reduceAdd]
  refine ACall.pure hw ?_
  simp(maxSteps:=9^9)only[↓VX,VQ,seval,hidM,isLook,maskM,apAt,hX,hE0,x0,x2,x3,x4,x5,hne,Int.reduceLT,Int.reduceLE,Int.toNat_zero,Int.reduceEq,Int.reduceToNat,Int.reduceAdd]
  refine ACall.pure (f4 _ _) ?_
  simp(maxSteps:=9^9)only[↓VX,VQ,seval,hidM,isLook,maskM,apAt,hX,hE0,x0,x2,x3,x4,x5,hne,Int.reduceLT,Int.reduceLE,Int.toNat_zero,Int.reduceEq,Int.reduceToNat,Int.reduceAdd]
  refine ⟨by decide,⟨(6,upd (upd mm b (some (.cells [.int .i64 0,.str ByteArray.empty]))) b (some (.cells [.int .i64 3,.str wFor]))),⟨by dsimp only; omega,fun j y hy => ?_⟩,by dsimp only; omega,?_⟩⟩
  ·have n1 : j ≠ b := by rintro rfl; rw [hsub _ _ hy] at hb; cases hb
   dsimp only
   rw [upd_ne _ _ n1,upd_ne _ _ n1]; exact hsub j y hy
  ·(simp only [FE,↓FP,seval])
   rfl
 ·simp(maxSteps:=9^9)only[↓VX,VQ,seval]
  refine ⟨_,rfl,by decide,?_⟩
  simp(maxSteps:=9^9)only[↓VX,VQ,seval]
  intro b hb
  refine ACall.pure h0 ?_
  simp(maxSteps:=9^9)only[↓VX,VQ,seval]
  (refine adraw (by first | exact envOk _ | exact envCOk _ _ _) mixed [⟨true,false,0⟩,⟨true,false,0⟩,⟨true,false,3⟩,⟨true,false,0⟩,⟨false,false,0⟩,⟨false,false,0⟩,⟨true,false,0⟩] (by kernel_rfl) ?_; show vcOpsD _ _ _ (_ :: _) _ _)
  simp(maxSteps:=9^9)only[↓VX,VQ,seval,hidM,isLook,maskM]
  refine ⟨_,.inl hac,?_⟩
  simp(maxSteps:=9^9)only[↓VX,VQ,seval,hidM,isLook,maskM,apAt,hX,hE0,x0,x2,x3,x4,x5,hne,Int.reduceLT,Int.reduceLE,Int.toNat_zero,Int.reduceEq,Int.reduceToNat,Int.reduceAdd]
  refine ACall.pure (f1 _ _) ?_
  simp(maxSteps:=9^9)only[↓VX,VQ,seval,hidM,isLook,maskM,apAt,hX,hE0,x0,x2,x3,x4,x5,hne,Int.reduceLT,Int.reduceLE,Int.toNat_zero,Int.reduceEq,Int.reduceToNat,Int.reduceAdd]
  refine ⟨by decide,⟨(7,upd (upd mm b (some (.cells [.int .i64 0,.str ByteArray.empty]))) b (some (.cells [.int .i64 0,.str ByteArray.empty]))),⟨by dsimp only; omega,fun j y hy => ?_⟩,by dsimp only; omega,?_⟩⟩
  ·have n1 : j ≠ b := by rintro rfl; rw [hsub _ _ hy] at hb; cases hb
   dsimp only
   rw [upd_ne _ _ n1,upd_ne _ _ n1]; exact hsub j y hy
  ·(simp only [FE,↓FP,seval])
   rfl
 ·simp(maxSteps:=9^9)only[↓VX,VQ,seval,hidM,isLook,maskM,apAt,hX,hE0,x0,x2,x3,x4,x5,hne,Int.reduceLT,Int.reduceLE,Int.toNat_zero,Int.reduceEq,Int.reduceToNat,Int.reduceAdd]
  intro _
  refine ⟨fun h => absurd h (by decide),fun _ => ⟨m,hsub,rfl,rfl⟩⟩
end Go.Proofs.YtdmejgfcaacdoaaGreat.Abs
