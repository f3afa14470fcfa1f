/- Lemmas for the statements of this seat (X28): they hold without conditions beyond those that each one states. -/
import Derived.Test.YtdmejgfcaacdoaaGreatX27
import Derived.Test.YtdmejgfcaacdoaaGreatX11
import Derived.Test.YtdmejgfcaacdoaaGreatX6
/- Contracts: Fills at the letter of the examples. -/
namespace Go.Proofs.YtdmejgfcaacdoaaGreat.Abs
set_option linter.unusedSimpArgs false
set_option maxHeartbeats 4000000
set_option maxRecDepth 100000
open Go Go.RowKit Go.Proofs
theorem shelfX_fit : shelfFit shelfX := by
 intro f hf
 simp only [shelfX,List.mem_cons,List.not_mem_nil,or_false] at hf
 rcases hf with rfl | rfl | rfl
 all_goals
  refine ⟨by decide,fun p hp => ?_⟩
  simp only [List.mem_cons,List.not_mem_nil,or_false] at hp
  rcases hp with rfl | rfl | rfl | rfl
  all_goals
   intro s hs
   simp only [List.mem_cons,List.not_mem_nil,or_false] at hs
   try (rcases hs with rfl | rfl)
  all_goals decide
theorem letABC_fit : sizesFit letABC := by
 intro s hs
 simp only [letABC,List.mem_cons,List.not_mem_nil,or_false] at hs
 rcases hs with rfl | rfl | rfl <;> decide
theorem waysABC : waysOf (shelfX.forms[2]!).parts letABC = [[1,2],[2,1]] := by decide +kernel
theorem enterX2 : enterA shelfX 2 = .tuple [seenA (shelfX.forms[2]!),.int .i64 0] := by
 unfold enterA
 rw [if_neg (by decide +kernel)]; rfl
theorem letABC_ok : letE letABC = 0 := by decide +kernel
theorem parts2 : partsE (shelfX.forms[2]!).parts = 0 := by decide +kernel
theorem fillsX_c : PCall Tryz.prog 33 [shelfA shelfX,.int .i64 2,strs letABC] (.tuple [rowsW [[⟨#[97]⟩],[⟨#[98]⟩,⟨#[99]⟩]],.int .i64 2,.int .i64 0]) := by
 intro m
 have hen := letenter_c shelfX shelfX_fit 2
 rw [enterX2] at hen
 have hle := lettered_c letABC letABC_fit
 rw [letABC_ok] at hle
 have hw := ways_p (shelfX.forms[2]!).name (shelfX.forms[2]!).parts parts2 (by decide) letABC
 rw [waysABC] at hw
 have e1 : seenA (shelfX.forms[2]!) = .eptr [.str ⟨#[108,105,115,116]⟩,.slice 3 [.agg [.slice 1 [],.int .i64 1,.int .i64 2],.agg [.slice 1 [],.int .i64 1,.int .i64 2]],.slice 2 [.agg [.int .i64 1,.int .i64 2],.agg [.int .i64 1,.int .i64 2]]] := rfl
 have e2 : AV.eptr (seenF (shelfX.forms[2]!).name (.slice 3 ((shelfX.forms[2]!).parts.map partA)) (roomsOf (shelfX.forms[2]!).parts)) = .eptr [.str ⟨#[108,105,115,116]⟩,.slice 3 [.agg [.slice 1 [],.int .i64 1,.int .i64 2],.agg [.slice 1 [],.int .i64 1,.int .i64 2]],.slice 2 [.agg [.int .i64 1,.int .i64 2],.agg [.int .i64 1,.int .i64 2]]] := rfl
 have e3 : manyA (([[1,2],[2,1]] : List (List Nat)).headD []) = .agg [.int .i64 1,.int .i64 2,.int .i64 0,.int .i64 0,.int .i64 0] := rfl
 rw [e1] at hen
 rw [e2,e3] at hw
 have hl : (([[1,2],[2,1]] : List (List Nat)).length : Int) = 2 := rfl
 rw [hl] at hw
 simp only [shelfA,shelfL,rowsW,strs,letABC,List.map_cons,List.map_nil] at hen hle hw ⊢
 refine ACall.forget ?_
 (refine acall_intro (E := envC (modeAt [10,13] [59]) false [15,16]) (envCOk _ _ _) rfl Tryz.func33 rfl Tryz.call33 (by kernel_rfl) (by simp [Tryz.ntmps33]) ?_; simp only [Tryz.f33];  simp(maxSteps:=9^9)only[↓VX,VQ,seval])
 (refine ACall.pure (hen) ?_; try simp(maxSteps:=9^9)only[↓VX,VQ,seval])
 (refine ACall.pure (hle) ?_; try simp(maxSteps:=9^9)only[↓VX,VQ,seval])
 (refine ACall.pure (hw) ?_; try simp(maxSteps:=9^9)only[↓VX,VQ,seval])
 refine aloop (envCOk _ _ _) (fun q : Nat × List AV × Int × Mem => ⟨[(2,.v (.slice 1 [.str ⟨#[97]⟩,.str ⟨#[98]⟩,.str ⟨#[99]⟩])),(6,.v (.slice 1 q.2.1)),(7,.v (.int .i64 2)),(10,.loc 10 0),(11,.v (.int .i64 q.2.2.1)),(40,.v (.slice 3 [.agg [.slice 1 [],.int .i64 1,.int .i64 2],.agg [.slice 1 [],.int .i64 1,.int .i64 2]])),(41,.v (.int .i64 2)),(42,.v (.int .i64 q.1))],[6],[(10,[.int .i64 1,.int .i64 2,.int .i64 0,.int .i64 0,.int .i64 0])],q.2.2.2⟩)
  (fun q => (∀ j y,m j = some y → q.2.2.2 j = some y) ∧ ((q.1 = 0 ∧ q.2.1 = [] ∧ q.2.2.1 = 0) ∨ (q.1 = 1 ∧ q.2.1 = [.slice 1 [.str ⟨#[97]⟩]] ∧ q.2.2.1 = 1) ∨ (q.1 = 2 ∧ q.2.1 = [.slice 1 [.str ⟨#[97]⟩],.slice 1 [.str ⟨#[98]⟩,.str ⟨#[99]⟩]] ∧ q.2.2.1 = 3)))
  (fun q => 2 - q.1) (0,[],0,m) (fun _ => rfl) ⟨fun _ _ h => h,.inl ⟨rfl,rfl,rfl⟩⟩ (by (simp only [FE,↓FP,seval]); rfl) ?_
 rintro ⟨k,F,at_,m1⟩ ⟨hs,hJ⟩
 dsimp only at hs hJ
 rcases hJ with ⟨rfl,rfl,rfl⟩ | ⟨rfl,rfl,rfl⟩ | ⟨rfl,rfl,rfl⟩
 ·simp(maxSteps:=9^9)only[↓VX,VQ,seval,Int.reduceEq]
  refine ⟨_,rfl,by decide,?_⟩
  simp(maxSteps:=9^9)only[↓VX,VQ,seval]
  refine acut_keep_at 0 (envCOk _ _ _) rfl rfl rfl (fun b : Nat => ⟨[(2,.v (.slice 1 [.str ⟨#[97]⟩,.str ⟨#[98]⟩,.str ⟨#[99]⟩])),(6,.v (.slice 1 [])),(7,.v (.int .i64 2)),(10,.loc 10 0),(11,.v (.int .i64 0)),(14,.v (.mslice b 0 1 1)),(40,.v (.slice 3 [.agg [.slice 1 [],.int .i64 1,.int .i64 2],.agg [.slice 1 [],.int .i64 1,.int .i64 2]])),(41,.v (.int .i64 2)),(42,.v (.int .i64 0))],[6],[(10,[.int .i64 1,.int .i64 2,.int .i64 0,.int .i64 0,.int .i64 0])],upd m1 b (some (.cells [.str ByteArray.empty]))⟩) (fun b => m1 b = none) (fun _ => rfl) ?_ ?_
  ·simp(maxSteps:=9^9)only[↓VX,VQ,seval,List.take_zero]
   refine ⟨fun _ h => h.elim,fun b hb => ⟨b,hb,?_⟩⟩
   (simp only [FE,↓FP,seval])
   rfl
  intro b hb
  simp(maxSteps:=9^9)only[↓VX,VQ,seval]
  refine acut_at_melt 5 (envCOk _ _ _) (V := vcCopyF _) (fun h hd _ _ _ hi hf hs _ _ _ hn => vcCopyF_sound (envCOk _ _ _) h hd hi hf hs hn) rfl rfl (fun _ : Unit => ⟨[(2,.v (.slice 1 [.str ⟨#[97]⟩,.str ⟨#[98]⟩,.str ⟨#[99]⟩])),(6,.v (.slice 1 [])),(7,.v (.int .i64 2)),(10,.loc 10 0),(11,.v (.int .i64 1)),(14,.v (.slice 1 [.str ⟨#[97]⟩])),(40,.v (.slice 3 [.agg [.slice 1 [],.int .i64 1,.int .i64 2],.agg [.slice 1 [],.int .i64 1,.int .i64 2]])),(41,.v (.int .i64 2)),(42,.v (.int .i64 0))],[6],[(10,[.int .i64 1,.int .i64 2,.int .i64 0,.int .i64 0,.int .i64 0])],m1⟩) (fun _ => True) (fun _ => b) (fun _ => 1) (fun _ => [.str ⟨#[97]⟩]) (fun _ => []) (fun _ => rfl) ?_ ?_
  ·show vcOps _ _ (_ :: _) _ _
   simp(maxSteps:=9^9)only[↓VX,VQ,seval,List.take_succ_cons,List.take_zero,vcCopyF,List.flatten_cons,List.flatten_nil,List.cons_append,List.nil_append,List.length_cons,List.length_nil,List.drop_succ_cons,List.drop_zero,List.drop_nil]
   refine ⟨(),⟨_,rfl,upd_same _ _ _,?_⟩,?_⟩
   ·intro e he
    simp only [List.mem_cons,List.not_mem_nil,or_false] at he
    try (rcases he with rfl | rfl)
    all_goals first | (subst he; exact ⟨rfl,rfl⟩) | exact ⟨rfl,rfl⟩
   ·simp only [Fits,fitsV,fitsO,fitsL,St.melt,↓upd,↓lookV,↓lookO,↓lookL,Nat.reduceEqDiff,↓reduceIte,and_true,true_and,Option.some.injEq,meltV,meltA,Option.map_some,List.map_cons,List.map_nil,List.length_cons,List.length_nil]
    rw [if_pos (by unfold maxLen; decide)]
    refine ⟨rfl,?_⟩
    rw [upd_upd,upd_upd]
    funext j
    by_cases q : j = b
    ·subst q; rw [upd_same,hb]
    ·rw [upd_ne _ _ q]
  rintro _ _
  simp(maxSteps:=9^9)only[↓VX,VQ,seval,buildV]
  refine ⟨(1,_,_,m1),⟨hs,.inr (.inl ⟨rfl,rfl,rfl⟩)⟩,by dsimp only; omega,?_⟩
  (simp only [FE,↓FP,seval])
 ·simp(maxSteps:=9^9)only[↓VX,VQ,seval,Int.reduceEq]
  refine ⟨_,rfl,by decide,?_⟩
  simp(maxSteps:=9^9)only[↓VX,VQ,seval]
  refine acut_keep_at 0 (envCOk _ _ _) rfl rfl rfl (fun b : Nat => ⟨[(2,.v (.slice 1 [.str ⟨#[97]⟩,.str ⟨#[98]⟩,.str ⟨#[99]⟩])),(6,.v (.slice 1 [.slice 1 [.str ⟨#[97]⟩]])),(7,.v (.int .i64 2)),(10,.loc 10 0),(11,.v (.int .i64 1)),(14,.v (.mslice b 0 2 2)),(40,.v (.slice 3 [.agg [.slice 1 [],.int .i64 1,.int .i64 2],.agg [.slice 1 [],.int .i64 1,.int .i64 2]])),(41,.v (.int .i64 2)),(42,.v (.int .i64 1))],[6],[(10,[.int .i64 1,.int .i64 2,.int .i64 0,.int .i64 0,.int .i64 0])],upd m1 b (some (.cells [.str ByteArray.empty,.str ByteArray.empty]))⟩) (fun b => m1 b = none) (fun _ => rfl) ?_ ?_
  ·simp(maxSteps:=9^9)only[↓VX,VQ,seval,List.take_zero]
   refine ⟨fun _ h => h.elim,fun b hb => ⟨b,hb,?_⟩⟩
   (simp only [FE,↓FP,seval])
   rfl
  intro b hb
  simp(maxSteps:=9^9)only[↓VX,VQ,seval]
  refine acut_at_melt 5 (envCOk _ _ _) (V := vcCopyF _) (fun h hd _ _ _ hi hf hs _ _ _ hn => vcCopyF_sound (envCOk _ _ _) h hd hi hf hs hn) rfl rfl (fun _ : Unit => ⟨[(2,.v (.slice 1 [.str ⟨#[97]⟩,.str ⟨#[98]⟩,.str ⟨#[99]⟩])),(6,.v (.slice 1 [.slice 1 [.str ⟨#[97]⟩]])),(7,.v (.int .i64 2)),(10,.loc 10 0),(11,.v (.int .i64 3)),(14,.v (.slice 1 [.str ⟨#[98]⟩,.str ⟨#[99]⟩])),(40,.v (.slice 3 [.agg [.slice 1 [],.int .i64 1,.int .i64 2],.agg [.slice 1 [],.int .i64 1,.int .i64 2]])),(41,.v (.int .i64 2)),(42,.v (.int .i64 1))],[6],[(10,[.int .i64 1,.int .i64 2,.int .i64 0,.int .i64 0,.int .i64 0])],m1⟩) (fun _ => True) (fun _ => b) (fun _ => 1) (fun _ => [.str ⟨#[98]⟩,.str ⟨#[99]⟩]) (fun _ => []) (fun _ => rfl) ?_ ?_
  ·show vcOps _ _ (_ :: _) _ _
   simp(maxSteps:=9^9)only[↓VX,VQ,seval,List.take_succ_cons,List.take_zero,vcCopyF,List.flatten_cons,List.flatten_nil,List.cons_append,List.nil_append,List.length_cons,List.length_nil,List.drop_succ_cons,List.drop_zero,List.drop_nil]
   refine ⟨(),⟨_,rfl,upd_same _ _ _,?_⟩,?_⟩
   ·intro e he
    simp only [List.mem_cons,List.not_mem_nil,or_false] at he
    try (rcases he with rfl | rfl)
    all_goals first | (subst he; exact ⟨rfl,rfl⟩) | exact ⟨rfl,rfl⟩
   ·simp only [Fits,fitsV,fitsO,fitsL,St.melt,↓upd,↓lookV,↓lookO,↓lookL,Nat.reduceEqDiff,↓reduceIte,and_true,true_and,Option.some.injEq,meltV,meltA,Option.map_some,List.map_cons,List.map_nil,List.length_cons,List.length_nil]
    rw [if_pos (by unfold maxLen; decide)]
    refine ⟨rfl,?_⟩
    rw [upd_upd,upd_upd]
    funext j
    by_cases q : j = b
    ·subst q; rw [upd_same,hb]
    ·rw [upd_ne _ _ q]
  rintro _ _
  simp(maxSteps:=9^9)only[↓VX,VQ,seval,buildV]
  refine ⟨(2,_,_,m1),⟨hs,.inr (.inr ⟨rfl,rfl,rfl⟩)⟩,by dsimp only; omega,?_⟩
  (simp only [FE,↓FP,seval])
 ·simp(maxSteps:=9^9)only[↓VX,VQ,seval,Int.reduceEq]
  exact ⟨m,hs,rfl⟩
end Go.Proofs.YtdmejgfcaacdoaaGreat.Abs
