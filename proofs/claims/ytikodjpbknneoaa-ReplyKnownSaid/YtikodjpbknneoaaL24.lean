/- The statement ReplyKnown: the law of the examples returns true. Conditions: none. -/
import Derived.Test.YtikodjpbknneoaaW13
import Derived.Test.YtikodjpbknneoaaW14
namespace Go.Proofs.Ytikodjpbknneoaa.Abs
set_option linter.unusedSimpArgs false
set_option maxHeartbeats 4000000
set_option maxRecDepth 100000
open Go Go.RowKit Go.Proofs

theorem xk1 : couldR (exB 11) 2 = ([],0) := by kernel_rfl
theorem xk2 : firstR exD = ([0,-1],1,0) := by kernel_rfl
theorem xk3 : straysR (exB 9) = ([0,2],[0,2],0) := by kernel_rfl
theorem xk4 : waitsR (exB 11) = ([],[],0) := by kernel_rfl
theorem xk5 : cameR (exB 11) 1 = (⟨6,7,(cameR (exB 11) 1).1.yes,(cameR (exB 11) 1).1.all⟩,1,0) := by kernel_rfl
theorem xk6 : decidesR (exB 11) 2 = ([],0) := by kernel_rfl

theorem replyKnown_c : PCall Try.prog 3 [] (.bool true) := by
 intro m
 have a0 := book_c 11
 have a1 := few_c
 have a2 := book_c 9
 have b1 := could_top (exB 11) exH0_names 2
 have b2 := first_top exD exH0_names
 have b3 := strays_top (exB 9) exH0_names
 have b4 := waits_top (exB 11) exH0_names
 have b5 := came_top (exB 11) exH0_names 1
 have b6 := decides_top (exB 11) exH0_names 2
 have i1 := intsT_c [0,-1]
 have i2 := intsT_c [0,2]
 have s1 := span6_c 6 7
 have eqs := eqFlatSpan 6 7 6 7
 have aw := awake_c
 rw [xk1] at b1; rw [xk2] at b2; rw [xk3] at b3; rw [xk4] at b4; rw [xk5] at b5; rw [xk6] at b6
 simp only [bookA,bookL,exB,exD,harbA,harbL,exH0,List.map_cons,List.map_nil,shipA,shipL,callA,letA,repA,ansA,ints] at *
 simp only [decide_true,Bool.and_true] at eqs
 (refine acall_intro (E := envC (modeAt [1,2,3,15] []) false []) (envCOk _ _ _) rfl Try.func3 rfl Try.call3 (by kernel_rfl) (by simp [Try.ntmps3]) ?_; simp only [Try.f3];  simp(maxSteps:=9^9)only[↓VX,VQ,seval,Int.reduceEq])
 (refine ACall.pure (a0) ?_; try simp(maxSteps:=9^9)only[↓VX,VQ,seval])
 (refine ACall.pure (a1) ?_; try simp(maxSteps:=9^9)only[↓VX,VQ,seval])
 (refine ACall.pure (a2) ?_; try simp(maxSteps:=9^9)only[↓VX,VQ,seval])
 (refine ACall.pure (b1) ?_; try simp(maxSteps:=9^9)only[↓VX,VQ,seval])
 (refine ACall.pure (b2) ?_; try simp(maxSteps:=9^9)only[↓VX,VQ,seval])
 (refine ACall.pure (b3) ?_; try simp(maxSteps:=9^9)only[↓VX,VQ,seval])
 (refine ACall.pure (b4) ?_; try simp(maxSteps:=9^9)only[↓VX,VQ,seval])
 (refine ACall.pure (b5) ?_; try simp(maxSteps:=9^9)only[↓VX,VQ,seval])
 ((refine ACall.pure (b6) ?_; try simp(maxSteps:=9^9)only[↓VX,VQ,seval]); try simp(maxSteps:=9^9)only[↓VX,VQ,seval,GL])
 (refine adrawQ (by first | exact envOk _ | exact envCOk _ _ _) mixed (by kernel_rfl) 74 ?_; simp only [List.replicate_succ,List.replicate_zero]; show vcOpsD _ _ _ (_ :: _) _ _)
 simp(maxSteps:=9^9)only[↓VX,VQ,seval,Int.reduceEq,eq_self,decide_true,decide_false,if_true,if_false,not_true_eq_false,List.append_eq]
 refine VPure.of i1 ?_
 simp(maxSteps:=9^9)only[↓VX,VQ,seval,Int.reduceEq,eq_self,decide_true,decide_false,if_true,if_false,not_true_eq_false,List.append_eq]
 refine VPure.of i2 ?_
 simp(maxSteps:=9^9)only[↓VX,VQ,seval,Int.reduceEq,eq_self,decide_true,decide_false,if_true,if_false,not_true_eq_false,List.append_eq]
 refine VPure.of i2 ?_
 simp(maxSteps:=9^9)only[↓VX,VQ,seval,Int.reduceEq,eq_self,decide_true,decide_false,if_true,if_false,not_true_eq_false,List.append_eq]
 refine VPure.of s1 ?_
 simp(maxSteps:=9^9)only[↓VX,VQ,seval,Int.reduceEq,eq_self,decide_true,decide_false,if_true,if_false,not_true_eq_false,List.append_eq]
 refine ⟨eqs,?_⟩
 refine VPure.of aw ?_
 simp(maxSteps:=9^9)only[↓VX,VQ,seval,Int.reduceEq,eq_self,decide_true,decide_false,if_true,if_false,not_true_eq_false,List.append_eq]
end Go.Proofs.Ytikodjpbknneoaa.Abs

namespace Go.Proofs.Ytikodjpbknneoaa
set_option linter.unusedSimpArgs false
open Go Go.RowKit Go.Proofs Abs
set_option maxRecDepth 100000

theorem replyKnown_types : LawTypes Try.prog Try.f3 [] 4 9 := by
 refine ⟨by rw [Try.params3],by kernel_rfl,Try.underlying4,laid_ok,fun t h => ?_⟩
 simp only [List.mem_cons,List.not_mem_nil,or_false] at h

theorem replyKnown_all (xs : List AV) (h : GoodAll Try.prog [] xs) : ∃ K : AV → Mem → Prop,ACall Try.prog 3 xs (fun _ => .none) K ∧ ∀ r m,K r m → r = .bool true := by
 match xs,h with
 | [],_ =>
  exact ⟨_,replyKnown_c _,fun r m h => h.1⟩

theorem replyKnown_lifted (os : Os) (started : os.Started) (H : Type) (enc : TypeId × Value → H) :
  ReturnsInHanded {} Try.checked os 3 .any (Rows.replyKnownSpec.pre6 enc Try.prog Try.f3 Rows.replyKnownRow.domain false) (Rows.replyKnownSpec.post enc Try.prog Try.f3 false true false false) := by
 refine returnsInHanded_of_change_sized (C := Try.checked) own_ok started (by kernel_rfl) Try.func3
  (ChangeSpec.witness6 (enc := enc) (C := Try.checked) false ⟨#[],#[],[]⟩ 8 (by kernel_rfl) (by kernel_rfl) (by kernel_rfl) (by kernel_rfl)) ?_
 intro W base args ds gs before hval hW _ hz _
 refine law_contract replyKnown_types rfl (fun ds hds => ?_) replyKnown_all W base args ds gs before hval hW hz
 match ds,hds with
 | [],_ => rfl

theorem replyKnown_holds : Rows.ReplyKnownSaid :=
 OpenClaim.holds_of_wide 3 Try.f3 rfl rfl rfl rfl rfl rfl rfl ⟨rfl,rfl,rfl,rfl,rfl⟩ rfl rfl rfl rfl rfl (by kernel_rfl) Try.func3 (by kernel_rfl)
  (of_decide_eq_true (by kernel_rfl)) (by unfold Func.isWrapper; first | (rw [if_pos (by decide +kernel)]; kernel_rfl) | (rw [if_neg (by decide +kernel)]; exact ⟨rfl,rfl⟩))
  (fun os started H enc _ => replyKnown_lifted os started H enc)
end Go.Proofs.Ytikodjpbknneoaa
