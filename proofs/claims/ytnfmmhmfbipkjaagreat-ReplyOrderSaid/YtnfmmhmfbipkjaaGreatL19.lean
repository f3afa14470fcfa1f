/- The statement ReplyOrder: for any book the law returns true. Conditions: none. -/
import Derived.Test.YtnfmmhmfbipkjaaGreatU13
import Derived.Test.YtnfmmhmfbipkjaaGreatU15
import Derived.Test.YtnfmmhmfbipkjaaGreatU14
namespace Go.Proofs.YtnfmmhmfbipkjaaGreat.Abs
set_option linter.unusedSimpArgs false
set_option maxHeartbeats 4000000
set_option maxRecDepth 100000
open Go Go.RowKit Go.Proofs

theorem waits_err (b : RBook) : (waitsR b).2.2 = (checkB b).2.2 := by
 unfold waitsR
 split
 ·rename_i q; exact q.symm
 ·rfl

theorem take_rev {l : List RAns} {j : Nat} (h : j < l.length) : l.reverse.take (j + 1) = l.reverse.take j ++ [l[l.length - 1 - j]!] := by
 rw [List.take_succ_eq_append_getElem (by simpa using h),List.getElem_reverse,getD_any (by omega)]

theorem replyOrder_c (b : RBook) (hs : hnamesFit b.harb) (hB : b.answers.length * 24 ≤ 140737488351232) : PCall Tryz.prog 13 [bookA b] (.bool true) := by
 intro m
 have a1 := first_top b hs
 have a2 := first_top (backB b) hs
 have a3 := waits_top b hs
 have a4 := waits_top (backB b) hs
 have v1 := valid6_c b hs
 have aw := awake_c
 have f1 := first_err b
 have f2 := first_err (backB b)
 have w1 := waits_err b
 have w2 := waits_err (backB b)
 have bv := back_valid b
 have law : (checkB b).2.2 = 0 → (firstR (backB b)).2.1 = (firstR b).2.1 ∧ waitsR (backB b) = waitsR b := fun q => by
  obtain ⟨l1,l2⟩ := order_law q
  rw [first_ok q,first_ok (back_check q)]
  exact ⟨l1,l2⟩
 have i1 := intsT_c (waitsR b).1
 have i2 := intsT_c (waitsR b).2.1
 have hrv : (backB b).answers = b.answers.reverse.take b.answers.length := by rw [List.take_of_length_le (by simp)]; rfl
 have htl := fun j : Nat => (by rw [List.length_take]; omega : (b.answers.reverse.take j).length ≤ j)
 have htr := fun j : Nat => take_rev (l := b.answers) (j := j)
 have eb : bookA (backB b) = .agg (harbL b.harb ++ [ints b.words,.int .i64 b.back,.slice 3 ((b.answers.reverse.take b.answers.length).map ansA)]) := by rw [← hrv]; rfl
 rw [eb] at a2 a4
 clear eb hrv
 generalize checkB b = C1 at *
 generalize checkB (backB b) = C2 at *
 generalize firstR b = F1 at *
 generalize firstR (backB b) = F2 at *
 generalize waitsR b = W1 at *
 generalize waitsR (backB b) = W2 at *
 simp only [bookA,bookL,harbL,List.cons_append,List.nil_append,ints] at *
 (refine acall_intro (E := envC (modeAt [3] []) false []) (envCOk _ _ _) rfl Tryz.func13 rfl Tryz.call13 (by kernel_rfl) (by simp [Tryz.ntmps13]) ?_; simp only [Tryz.f13];  simp(maxSteps:=9^9)only[↓VX,VQ,seval,Int.reduceEq])
 repeat'(first|intro _|apply And.intro)
 all_goals try first|omega|(simp only[LL];omega)|exact nlC (by decide) _|exact nbC rfl
 refine aloop (envCOk _ _ _) (fun j : Nat => ⟨[(1,.v (.eptr [.int .i64 b.harb.ports,.int .i64 b.harb.lost,.slice 5 (b.harb.ships.map shipA),.slice 3 (b.harb.letters.map letA),.slice 4 (b.harb.reports.map repA),.slice 1 (b.words.map (AV.int .i64)),.int .i64 b.back,.slice 3 (b.answers.map ansA)])),(3,.loc 3 0),(4,.v (.int .i64 ((b.answers.length : Int) - 1 - j)))],[],[(3,[.int .i64 b.harb.ports,.int .i64 b.harb.lost,.slice 5 (b.harb.ships.map shipA),.slice 3 (b.harb.letters.map letA),.slice 4 (b.harb.reports.map repA),.slice 1 (b.words.map (AV.int .i64)),.int .i64 b.back,.slice 3 ((b.answers.reverse.take j).map ansA)])],m⟩)
  (fun j => j ≤ b.answers.length) (fun j => b.answers.length - j) 0 (fun _ => rfl) (by simp) (by (simp only [FE,↓FP,seval]); try simp) ?_
 intro j hj
 have htlj := htl j
 have htrj := htr j
 simp(maxSteps:=9^9)only[↓VX,VQ,seval]
 repeat'(first|intro _|apply And.intro)
 all_goals try first|omega|(simp only[LL];omega)|exact nlC (by decide) _|exact nbC rfl
 ·have hjl : j < b.answers.length := by omega
  have hidx : ((b.answers.length : Int) - 1 - j).toNat = b.answers.length - 1 - j := by omega
  have htrj := htrj hjl
  (refine adraw (by first | exact envOk _ | exact envCOk _ _ _) mixed [⟨false,false,0⟩,⟨false,false,0⟩,⟨false,false,0⟩,⟨false,true,0⟩,⟨false,false,0⟩,⟨false,false,0⟩,⟨false,false,0⟩,⟨false,false,0⟩,⟨false,false,0⟩,⟨false,false,0⟩,⟨false,true,0⟩,⟨false,false,0⟩,⟨false,false,0⟩] (by kernel_rfl) ?_; show vcOpsD _ _ _ (_ :: _) _ _)
  simp(maxSteps:=9^9)only[↓VX,VQ,seval,hidx]
  repeat'(first|intro _|apply And.intro)
  all_goals try first|omega|(simp only[LL];omega)|exact nlC (by decide) _|exact nbC rfl
  refine ⟨j + 1,by dsimp only; omega,by dsimp only; omega,?_⟩
  (simp only [FE,↓FP,seval])
  rw [htrj]
  refine ⟨?_,?_⟩
  ·congr 2; omega
  ·simp [ansA,AV.cells]
 ·have hje : j = b.answers.length := by omega
  subst hje
  ((refine ACall.pure (a1) ?_; try simp(maxSteps:=9^9)only[↓VX,VQ,seval]); try simp(maxSteps:=9^9)only[↓VX,VQ,seval,GL])
  ((refine ACall.pure (a2) ?_; try simp(maxSteps:=9^9)only[↓VX,VQ,seval]); try simp(maxSteps:=9^9)only[↓VX,VQ,seval,GL])
  ((refine ACall.pure (a3) ?_; try simp(maxSteps:=9^9)only[↓VX,VQ,seval]); try simp(maxSteps:=9^9)only[↓VX,VQ,seval,GL])
  ((refine ACall.pure (a4) ?_; try simp(maxSteps:=9^9)only[↓VX,VQ,seval]); try simp(maxSteps:=9^9)only[↓VX,VQ,seval,GL])
  ((refine ACall.pure (v1) ?_; try simp(maxSteps:=9^9)only[↓VX,VQ,seval]); try simp(maxSteps:=9^9)only[↓VX,VQ,seval,GL])
  repeat'(first|intro _|apply And.intro)
  all_goals try first|omega|(simp only[LL];omega)|exact nlC (by decide) _|exact nbC rfl
  ·((refine ACall.pure (aw) ?_; try simp(maxSteps:=9^9)only[↓VX,VQ,seval]); try simp(maxSteps:=9^9)only[↓VX,VQ,seval,GL])
  ·have hl := law (by apply Decidable.byContradiction; assumption)
   rw [hl.2]
   ((refine ACall.pure (i1) ?_; try simp(maxSteps:=9^9)only[↓VX,VQ,seval]); try simp(maxSteps:=9^9)only[↓VX,VQ,seval,GL])
   ((refine ACall.pure (i2) ?_; try simp(maxSteps:=9^9)only[↓VX,VQ,seval]); try simp(maxSteps:=9^9)only[↓VX,VQ,seval,GL])
   ((refine ACall.pure (aw) ?_; try simp(maxSteps:=9^9)only[↓VX,VQ,seval]); try simp(maxSteps:=9^9)only[↓VX,VQ,seval,GL])
end Go.Proofs.YtnfmmhmfbipkjaaGreat.Abs

namespace Go.Proofs.YtnfmmhmfbipkjaaGreat
set_option linter.unusedSimpArgs false
open Go Go.RowKit Go.Proofs Abs
set_option maxRecDepth 100000

theorem replyOrder_types : LawTypes Tryz.prog Tryz.f13 [30] 4 9 := by
 refine ⟨by rw [Tryz.params13],by kernel_rfl,Tryz.underlying4,laid_ok,fun t h => ?_⟩
 simp only [List.mem_cons,List.not_mem_nil,or_false] at h
 rcases h with rfl
 ·exact plain30

theorem replyOrder_all (xs : List AV) (h : GoodAll Tryz.prog [30] xs) : ∃ K : AV → Mem → Prop,ACall Tryz.prog 13 xs (fun _ => .none) K ∧ ∀ r m,K r m → r = .bool true := by
 match xs,h with
 | [a0],⟨⟨l0,g0,h0⟩,_⟩ =>
  obtain ⟨b,hb,e0⟩ := open_book g0
  rw [h0,e0]
  exact ⟨_,replyOrder_c b hb.names hb.answers _,fun r m h => h.1⟩

theorem replyOrder_lifted (os : Os) (started : os.Started) (H : Type) (enc : TypeId × Value → H) :
  ReturnsInHanded {} Tryz.checked os 13 .any (Rows.replyOrderSpec.pre6 enc Tryz.prog Tryz.f13 Rows.replyOrderRow.domain false) (Rows.replyOrderSpec.post enc Tryz.prog Tryz.f13 false true false false) := by
 refine returnsInHanded_of_change_sized (C := Tryz.checked) own_ok started (by kernel_rfl) Tryz.func13
  (ChangeSpec.witness6 (enc := enc) (C := Tryz.checked) false ⟨#[],#[.agg #[.int .i64 0,.int .i64 0,.slice .none 0 0,.slice .none 0 0,.slice .none 0 0,.slice .none 0 0,.int .i64 0,.slice .none 0 0]],[]⟩ 8 (by kernel_rfl) (by kernel_rfl) (by kernel_rfl) (by kernel_rfl)) ?_
 intro W base args ds gs before hval hW _ hz _
 refine law_contract replyOrder_types rfl (fun ds hds => ?_) replyOrder_all W base args ds gs before hval hW hz
 match ds,hds with
 | [d0],_ => rfl

theorem replyOrder_holds : Rows.ReplyOrderSaid :=
 OpenClaim.holds_of_wide 13 Tryz.f13 rfl rfl rfl rfl rfl rfl rfl ⟨rfl,rfl,rfl,rfl,rfl⟩ rfl rfl rfl rfl rfl (by kernel_rfl) Tryz.func13 (by kernel_rfl)
  (of_decide_eq_true (by kernel_rfl)) (by unfold Func.isWrapper; first | (rw [if_pos (by decide +kernel)]; kernel_rfl) | (rw [if_neg (by decide +kernel)]; exact ⟨rfl,rfl⟩))
  (fun os started H enc _ => replyOrder_lifted os started H enc)
end Go.Proofs.YtnfmmhmfbipkjaaGreat
