/- The statement ReplyFewest: for any book and truth the law returns true. Conditions: none. -/
import Derived.Test.YtnfmmhmfbipkjaaGreatU13
import Derived.Test.YtnfmmhmfbipkjaaGreatU15
import Derived.Test.YtnfmmhmfbipkjaaGreatU14
namespace Go.Proofs.YtnfmmhmfbipkjaaGreat.Abs
set_option linter.unusedSimpArgs false
open Go Go.RowKit Go.Proofs

/-- Is an answer's letter as it may be,in a truth? -/
def okB (b : RBook) (t : RTru) (w : List Int) (a : Nat) : Bool := decide (w[a]! = -1) || ((decide (0 ≤ w[a]! ∧ w[a]! ≤ (b.words.length : Int) - 1) && !decide (w[a]! ∈ w.take a)) && canR b t a (w[a]!).toNat)
def isTo (b : RBook) (t : RTru) (w : List Int) (n : Nat) : Bool := (List.range n).all fun a => okB b t w a
theorem isTo_succ (b : RBook) (t : RTru) (w : List Int) (n : Nat) : isTo b t w (n + 1) = (isTo b t w n && okB b t w n) := by
 unfold isTo; rw [List.range_succ,List.all_append]; simp
def metTo (b : RBook) (T : List RTru) (w : List Int) (n : Nat) : Bool := (List.range n).any fun i => isTo b (T[i]!) w w.length
theorem metTo_succ (b : RBook) (T : List RTru) (w : List Int) (n : Nat) : metTo b T w (n + 1) = (metTo b T w n || isTo b (T[n]!) w w.length) := by
 unfold metTo; rw [List.range_succ,List.any_append]; simp
theorem okB_way {b : RBook} (hb : BOk b) {t : RTru} {w : List Int} (h : w ∈ waysR b t) {a : Nat} (ha : a < w.length) : okB b t w a = true := by
 obtain ⟨h1,h2⟩ := mem_waysR.1 h
 unfold okB
 rcases h2 a (by omega) with q | ⟨k,k1,k2,k3,k4⟩
 ·rw [decide_eq_true q]; rfl
 ·have hw := hb.w
  rw [k2,decide_eq_true (show (0 : Int) ≤ (k : Int) ∧ (k : Int) ≤ (b.words.length : Int) - 1 by omega),decide_eq_false k3,Int.toNat_natCast,k4]
  simp
theorem fewest_met {b : RBook} (hb : BOk b) : metTo b (truthsR b.harb []) (bestR b) (truthsR b.harb []).length = true := by
 obtain ⟨x,hx,e⟩ := bestR_fair hb
 obtain ⟨h1,h2,_⟩ := fair_mem.1 hx
 obtain ⟨i,hi,ei⟩ := List.mem_iff_getElem.1 h1
 unfold metTo
 rw [List.any_eq_true]
 refine ⟨i,List.mem_range.2 hi,?_⟩
 unfold isTo
 rw [List.all_eq_true]
 intro a ha
 rw [getD_any hi,ei]
 rw [e] at h2
 exact okB_way hb h2 (List.mem_range.1 ha)
theorem bestR_length {b : RBook} (hb : BOk b) : (bestR b).length = b.answers.length := by
 obtain ⟨x,hx,e⟩ := bestR_fair hb
 rw [← e]; exact fair_len hx
theorem bestR_many {b : RBook} (hb : BOk b) : manyL (bestR b) = leastR b := by
 obtain ⟨x,hx,e⟩ := bestR_fair hb
 rw [← e]; exact (fair_mem.1 hx).2.2
theorem fewest_no {b : RBook} (hb : BOk b) {t : RTru} (ht : t ∈ truthsR b.harb []) {w : List Int} (hw : w ∈ waysR b t) : leastR b < manyL w ∨ (manyL w = leastR b ∧ befL w (bestR b) = false) := by
 have h1 := least_le ht hw
 by_cases q : manyL w = leastR b
 ·refine .inr ⟨q,?_⟩
  have hf : (t,w) ∈ fairR b := fair_mem.2 ⟨ht,hw,q⟩
  obtain ⟨i,hi,ei⟩ := List.mem_iff_getElem.1 hf
  have hp := fair_pos hb
  have := (bestF_min (F := fairR b) (n := b.answers.length) (fun i hi => fair_way hi) ((fairR b).length - 1) (by omega)).2 i (by omega)
  rw [getD_any hi,ei] at this
  exact this
 ·exact .inl (by omega)
end Go.Proofs.YtnfmmhmfbipkjaaGreat.Abs

namespace Go.Proofs.YtnfmmhmfbipkjaaGreat.Abs
set_option linter.unusedSimpArgs false
set_option maxHeartbeats 4000000
set_option maxRecDepth 100000
open Go Go.RowKit Go.Proofs

theorem replyFewest_no (b : RBook) (hs : hnamesFit b.harb) (x y : Nat) (e : ¬ (checkB b).2.2 = 0) : PCall Tryz.prog 8 [bookA b,.agg [.int .u16 x,.int .u16 y]] (.bool true) := by
 intro m
 have v1 := valid6_c b hs
 have d1 := first_top b hs
 have aw := awake_c
 rw [first_bad e] at d1
 rw [decide_eq_false e] at v1
 generalize checkB b = C at *
 simp only [bookA,bookL,harbL,List.cons_append,List.nil_append,ints,List.map_nil] at *
 (refine acall_intro (E := envC (modeAt [] []) false []) (envCOk _ _ _) rfl Tryz.func8 rfl Tryz.call8 (by kernel_rfl) (by simp [Tryz.ntmps8]) ?_; simp only [Tryz.f8];  simp(maxSteps:=9^9)only[↓VX,VQ,seval,Int.reduceEq])
 ((refine ACall.pure (d1) ?_; try simp(maxSteps:=9^9)only[↓VX,VQ,seval]); try simp(maxSteps:=9^9)only[↓VX,VQ,seval,GL])
 ((refine ACall.pure (v1) ?_; try simp(maxSteps:=9^9)only[↓VX,VQ,seval]); try simp(maxSteps:=9^9)only[↓VX,VQ,seval,GL])
 repeat'(first|intro _|apply And.intro)
 all_goals try first|omega|(simp only[LL];omega)|exact nlC (by decide) _|exact nbC rfl
 ((refine ACall.pure (aw) ?_; try simp(maxSteps:=9^9)only[↓VX,VQ,seval]); try simp(maxSteps:=9^9)only[↓VX,VQ,seval,GL])

theorem okB_stray {b : RBook} {t : RTru} {w : List Int} {a : Nat} (h : w[a]! = -1) : okB b t w a = true := by
 unfold okB; rw [decide_eq_true h]; rfl
theorem okB_let {b : RBook} {t : RTru} {w : List Int} {a : Nat} (h : ¬ w[a]! = -1) : okB b t w a = ((decide (0 ≤ w[a]! ∧ w[a]! ≤ (b.words.length : Int) - 1) && !decide (w[a]! ∈ w.take a)) && canR b t a (w[a]!).toNat) := by
 unfold okB; rw [decide_eq_false h,Bool.false_or]

theorem replyFewest_ok (b : RBook) (hs : hnamesFit b.harb) (x y : Nat) (hx : x < 65536) (hy : y < 65536) (e : (checkB b).2.2 = 0) : PCall Tryz.prog 8 [bookA b,.agg [.int .u16 x,.int .u16 y]] (.bool true) := by
 intro m
 have hb := bok_check e
 have hw := hb.w
 have hnn := hb.n
 have hnl := hb.h.nl
 have v1 := valid6_c b hs
 have d1 := first_top b hs
 rw [decide_eq_true e] at v1
 rw [first_ok e] at d1
 have aw := awake_c
 have lm := fewest_met hb
 have ll := bestR_length hb
 have lmy := bestR_many hb
 have my := many06_c (bestR b) (by omega)
 rw [lmy] at my
 have htr := truths_c b.harb hb.h []
 have htl := truths_len hb.h []
 have htp : 0 < (truthsR b.harb []).length := List.length_pos_iff.2 hb.t
 have htk := fun (i : Nat) (q : i < (truthsR b.harb []).length) => truths_tok hb.h (but := []) (t := (truthsR b.harb [])[i]!) (by rw [getD_any q]; exact List.getElem_mem q)
 have hca := fun (i : Nat) (q : i < (truthsR b.harb []).length) => can06_c b hb _ (htk i q)
 have hin := fun n : Int => in_c n 0 ((b.words.length : Int) - 1)
 have hha := fun a : Nat => has_c ((bestR b).take a) ((bestR b)[a]!)
 have hi : x % (truthsR b.harb []).length < (truthsR b.harb []).length := Nat.mod_lt x htp
 have hm1 := natMod x (truthsR b.harb []).length
 generalize x % (truthsR b.harb []).length = I at *
 have hwy := ways06_c b hb _ (htk I hi)
 have hti : (truthsR b.harb [])[I]! ∈ truthsR b.harb [] := by rw [getD_any hi]; exact List.getElem_mem hi
 have hwl := waysR_length hb ((truthsR b.harb [])[I]!)
 have hwp : 0 < (waysR b ((truthsR b.harb [])[I]!)).length := List.length_pos_of_mem (stray_way b _ _)
 have hj : y % (waysR b ((truthsR b.harb [])[I]!)).length < (waysR b ((truthsR b.harb [])[I]!)).length := Nat.mod_lt y hwp
 have hm2 := natMod y (waysR b ((truthsR b.harb [])[I]!)).length
 generalize y % (waysR b ((truthsR b.harb [])[I]!)).length = J at *
 have hwj : (waysR b ((truthsR b.harb [])[I]!))[J]! ∈ waysR b ((truthsR b.harb [])[I]!) := by rw [getD_any hj]; exact List.getElem_mem hj
 have hwn := fewest_no hb hti hwj
 have hwjl := (mem_waysR.1 hwj).1
 have my2 := many06_c ((waysR b ((truthsR b.harb [])[I]!))[J]!) (by omega)
 have bf := before06_c ((waysR b ((truthsR b.harb [])[I]!))[J]!) (bestR b)
 have hms := metTo_succ b (truthsR b.harb []) (bestR b)
 have his := fun i : Nat => isTo_succ b ((truthsR b.harb [])[i]!) (bestR b)
 clear hti hwj lmy
 generalize waysR b ((truthsR b.harb [])[I]!) = WW at *
 generalize truthsR b.harb [] = T at *
 generalize bestR b = w at *
 generalize leastR b = L at *
 simp only [bookA,bookL,harbA,harbL,List.cons_append,List.nil_append,ints,trusA,truA,fatesA,byA,List.map_nil] at *
 (refine acall_intro (E := envC (modeAt [] []) false []) (envCOk _ _ _) rfl Tryz.func8 rfl Tryz.call8 (by kernel_rfl) (by simp [Tryz.ntmps8]) ?_; simp only [Tryz.f8];  simp(maxSteps:=9^9)only[↓VX,VQ,seval,Int.reduceEq])
 ((refine ACall.pure (d1) ?_; try simp(maxSteps:=9^9)only[↓VX,VQ,seval]); try simp(maxSteps:=9^9)only[↓VX,VQ,seval,GL])
 ((refine ACall.pure (v1) ?_; try simp(maxSteps:=9^9)only[↓VX,VQ,seval]); try simp(maxSteps:=9^9)only[↓VX,VQ,seval,GL])
 repeat'(first|intro _|apply And.intro)
 all_goals try first|omega|(simp only[LL];omega)|exact nlC (by decide) _|exact nbC rfl
 ((refine ACall.pure (my) ?_; try simp(maxSteps:=9^9)only[↓VX,VQ,seval]); try simp(maxSteps:=9^9)only[↓VX,VQ,seval,GL])
 repeat'(first|intro _|apply And.intro)
 all_goals try first|omega|(simp only[LL];omega)|exact nlC (by decide) _|exact nbC rfl
 ((refine ACall.pure (htr) ?_; try simp(maxSteps:=9^9)only[↓VX,VQ,seval]); try simp(maxSteps:=9^9)only[↓VX,VQ,seval,GL])
 refine aloop (envCOk _ _ _) (fun i : Nat => ⟨[(2,.v (.eptr [.int .i64 b.harb.ports,.int .i64 b.harb.lost,.slice 5 (b.harb.ships.map shipA),.slice 3 (b.harb.letters.map letA),.slice 4 (b.harb.reports.map repA),.slice 1 (b.words.map (AV.int .i64)),.int .i64 b.back,.slice 3 (b.answers.map ansA)])),(3,.v (.eptr [.int .u16 x,.int .u16 y])),(5,.v (.slice 1 (w.map (AV.int .i64)))),(6,.v (.int .i64 L)),(8,.v (.slice 2 (T.map truA))),(9,.v (.bool (metTo b T w i))),(10,.v (.int .i64 i))],[],[],m⟩)
  (fun i => i ≤ T.length) (fun i => T.length - i) 0 (fun _ => rfl) (by simp) (by (simp only [FE,↓FP,seval]); try simp [metTo]) ?_
 intro i hi
 have hmsi := hms i
 generalize hM : metTo b T w i = M at *
 simp(maxSteps:=9^9)only[↓VX,VQ,seval]
 repeat'(first|intro _|apply And.intro)
 all_goals try first|omega|(simp only[LL];omega)|exact nlC (by decide) _|exact nbC rfl
 ·have hil : i < T.length := by omega
  have hcai := hca i hil
  have hisi := his i
  clear his hca hms lm hwy htk hm1 hm2 my2 bf hwn
  generalize hTi : T[i]! = ti at *
  refine aloop (envCOk _ _ _) (fun a : Nat => ⟨[(2,.v (.eptr [.int .i64 b.harb.ports,.int .i64 b.harb.lost,.slice 5 (b.harb.ships.map shipA),.slice 3 (b.harb.letters.map letA),.slice 4 (b.harb.reports.map repA),.slice 1 (b.words.map (AV.int .i64)),.int .i64 b.back,.slice 3 (b.answers.map ansA)])),(3,.v (.eptr [.int .u16 x,.int .u16 y])),(5,.v (.slice 1 (w.map (AV.int .i64)))),(6,.v (.int .i64 L)),(8,.v (.slice 2 (T.map truA))),(9,.v (.bool M)),(10,.v (.int .i64 i)),(11,.v (.bool (isTo b ti w a))),(12,.v (.int .i64 a))],[],[],m⟩)
   (fun a => a ≤ w.length) (fun a => w.length - a) 0 (fun _ => rfl) (by simp) (by (simp only [FE,↓FP,seval]); try simp [isTo]) ?_
  intro a ha
  have hisa := hisi a
  have hcaa := hcai a
  have hhaa := hha a
  generalize hR : isTo b ti w a = R at *
  simp(maxSteps:=9^9)only[↓VX,VQ,seval]
  repeat'(first|intro _|apply And.intro)
  all_goals try first|omega|(simp only[LL];omega)|exact nlC (by decide) _|exact nbC rfl
  ·have q : w[a]! = -1 := by assumption
   rw [okB_stray q,Bool.and_true] at hisa
   refine ⟨a + 1,by dsimp only; omega,by dsimp only; omega,?_⟩
   (simp only [FE,↓FP,seval])
   rw [hisa]
   simp
  ·have q : ¬ w[a]! = -1 := by assumption
   have hal : a < w.length := by omega
   have hin' := hin (w[a]!)
   rw [okB_let q] at hisa
   cases R with
   | false =>
    rw [Bool.false_and] at hisa
    (refine adrawQ (by first | exact envOk _ | exact envCOk _ _ _) mixed (by kernel_rfl) 37 ?_; simp only [List.replicate_succ,List.replicate_zero]; show vcOpsD _ _ _ (_ :: _) _ _)
    simp(maxSteps:=9^9)only[↓VX,VQ,seval]
    repeat'(first|intro _|apply And.intro)
    all_goals try first|omega|(simp only[LL];omega)|exact nlC (by decide) _|exact nbC rfl
    refine ⟨a + 1,by dsimp only; omega,by dsimp only; omega,?_⟩
    (simp only [FE,↓FP,seval])
    rw [hisa]
    try simp
   | true =>
    have hwl := b.words.length
    rw [Bool.true_and] at hisa
    by_cases c1 : 0 ≤ w[a]! ∧ w[a]! ≤ (b.words.length : Int) - 1
    ·rw [decide_eq_true c1,Bool.true_and] at hisa
     rw [decide_eq_true c1] at hin'
     by_cases c2 : w[a]! ∈ w.take a
     ·rw [decide_eq_true c2,List.map_take] at hhaa
      rw [decide_eq_true c2] at hisa
      (refine adrawQ (by first | exact envOk _ | exact envCOk _ _ _) mixed (by kernel_rfl) 37 ?_; simp only [List.replicate_succ,List.replicate_zero]; show vcOpsD _ _ _ (_ :: _) _ _)
      simp(maxSteps:=9^9)only[↓VX,VQ,seval]
      repeat'(first|intro _|apply And.intro)
      all_goals try first|omega|(simp only[LL];omega)|exact nlC (by decide) _|exact nbC rfl
      refine VPure.of hin' ?_
      simp(maxSteps:=9^9)only[↓VX,VQ,seval]
      repeat'(first|intro _|apply And.intro)
      all_goals try first|omega|(simp only[LL];omega)|exact nlC (by decide) _|exact nbC rfl
      refine VPure.of hhaa ?_
      simp(maxSteps:=9^9)only[↓VX,VQ,seval]
      repeat'(first|intro _|apply And.intro)
      all_goals try first|omega|(simp only[LL];omega)|exact nlC (by decide) _|exact nbC rfl
      refine ⟨a + 1,by dsimp only; omega,by dsimp only; omega,?_⟩
      (simp only [FE,↓FP,seval])
      rw [hisa]
      try simp
     ·rw [decide_eq_false c2,List.map_take] at hhaa
      rw [decide_eq_false c2] at hisa
      have hcw := hcaa (by omega) (w[a]!).toNat (by omega)
      rw [Int.toNat_of_nonneg c1.1] at hcw
      generalize canR b ti a (w[a]!).toNat = CR at *
      (refine adrawQ (by first | exact envOk _ | exact envCOk _ _ _) mixed (by kernel_rfl) 37 ?_; simp only [List.replicate_succ,List.replicate_zero]; show vcOpsD _ _ _ (_ :: _) _ _)
      simp(maxSteps:=9^9)only[↓VX,VQ,seval]
      repeat'(first|intro _|apply And.intro)
      all_goals try first|omega|(simp only[LL];omega)|exact nlC (by decide) _|exact nbC rfl
      refine VPure.of hin' ?_
      simp(maxSteps:=9^9)only[↓VX,VQ,seval]
      repeat'(first|intro _|apply And.intro)
      all_goals try first|omega|(simp only[LL];omega)|exact nlC (by decide) _|exact nbC rfl
      refine VPure.of hhaa ?_
      simp(maxSteps:=9^9)only[↓VX,VQ,seval,hTi]
      repeat'(first|intro _|apply And.intro)
      all_goals try first|omega|(simp only[LL];omega)|exact nlC (by decide) _|exact nbC rfl
      refine VPure.of hcw ?_
      simp(maxSteps:=9^9)only[↓VX,VQ,seval]
      repeat'(first|intro _|apply And.intro)
      all_goals try first|omega|(simp only[LL];omega)|exact nlC (by decide) _|exact nbC rfl
      refine ⟨a + 1,by dsimp only; omega,by dsimp only; omega,?_⟩
      (simp only [FE,↓FP,seval])
      rw [hisa]
      try simp
    ·rw [decide_eq_false c1,Bool.false_and,Bool.false_and] at hisa
     rw [decide_eq_false c1] at hin'
     (refine adrawQ (by first | exact envOk _ | exact envCOk _ _ _) mixed (by kernel_rfl) 37 ?_; simp only [List.replicate_succ,List.replicate_zero]; show vcOpsD _ _ _ (_ :: _) _ _)
     simp(maxSteps:=9^9)only[↓VX,VQ,seval]
     repeat'(first|intro _|apply And.intro)
     all_goals try first|omega|(simp only[LL];omega)|exact nlC (by decide) _|exact nbC rfl
     refine VPure.of hin' ?_
     simp(maxSteps:=9^9)only[↓VX,VQ,seval]
     repeat'(first|intro _|apply And.intro)
     all_goals try first|omega|(simp only[LL];omega)|exact nlC (by decide) _|exact nbC rfl
     refine ⟨a + 1,by dsimp only; omega,by dsimp only; omega,?_⟩
     (simp only [FE,↓FP,seval])
     rw [hisa]
     try simp
  all_goals
   have hae : a = w.length := by omega
   subst hae
   rw [hR] at hmsi
   refine ⟨i + 1,by dsimp only; omega,by dsimp only; omega,?_⟩
   (simp only [FE,↓FP,seval])
   rw [hmsi]
   simp [*]
 ·have hie : i = T.length := by omega
  subst hie
  rw [lm] at hM
  subst hM
  (refine adraw (by first | exact envOk _ | exact envCOk _ _ _) mixed [⟨false,false,0⟩,⟨false,false,0⟩,⟨false,false,0⟩,⟨false,false,0⟩,⟨false,false,0⟩,⟨false,false,0⟩,⟨false,false,0⟩,⟨false,false,0⟩,⟨false,false,0⟩,⟨false,false,0⟩,⟨false,false,0⟩,⟨false,false,0⟩] (by kernel_rfl) ?_; show vcOpsD _ _ _ (_ :: _) _ _)
  simp(maxSteps:=9^9)only[↓VX,VQ,seval,hm1]
  repeat'(first|intro _|apply And.intro)
  all_goals try first|omega|(simp only[LL];omega)|exact nlC (by decide) _|exact nbC rfl
  refine VPure.of hwy ?_
  simp(maxSteps:=9^9)only[↓VX,VQ,seval,hm2]
  repeat'(first|intro _|apply And.intro)
  all_goals try first|omega|(simp only[LL];omega)|exact nlC (by decide) _|exact nbC rfl
  ((refine ACall.pure (my2) ?_; try simp(maxSteps:=9^9)only[↓VX,VQ,seval]); try simp(maxSteps:=9^9)only[↓VX,VQ,seval,GL])
  rcases hwn with q | ⟨q,q2⟩
  ·repeat'(first|intro _|apply And.intro)
   all_goals try first|omega|(simp only[LL];omega)|exact nlC (by decide) _|exact nbC rfl
   all_goals (((refine ACall.pure (aw) ?_; try simp(maxSteps:=9^9)only[↓VX,VQ,seval]); try simp(maxSteps:=9^9)only[↓VX,VQ,seval,GL]))
  ·rw [q2] at bf
   repeat'(first|intro _|apply And.intro)
   all_goals try first|omega|(simp only[LL];omega)|exact nlC (by decide) _|exact nbC rfl
   all_goals (((refine ACall.pure (bf) ?_; try simp(maxSteps:=9^9)only[↓VX,VQ,seval]); try simp(maxSteps:=9^9)only[↓VX,VQ,seval,GL]))
   all_goals (((refine ACall.pure (aw) ?_; try simp(maxSteps:=9^9)only[↓VX,VQ,seval]); try simp(maxSteps:=9^9)only[↓VX,VQ,seval,GL]))

theorem replyFewest_c (b : RBook) (hs : hnamesFit b.harb) (x y : Nat) (hx : x < 65536) (hy : y < 65536) : PCall Tryz.prog 8 [bookA b,.agg [.int .u16 x,.int .u16 y]] (.bool true) := by
 by_cases e : (checkB b).2.2 = 0
 ·exact replyFewest_ok b hs x y hx hy e
 ·exact replyFewest_no b hs x y e
end Go.Proofs.YtnfmmhmfbipkjaaGreat.Abs

namespace Go.Proofs.YtnfmmhmfbipkjaaGreat
set_option linter.unusedSimpArgs false
open Go Go.RowKit Go.Proofs Abs
set_option maxRecDepth 100000

theorem replyFewest_types : LawTypes Tryz.prog Tryz.f8 [30,67] 4 9 := by
 refine ⟨by rw [Tryz.params8],by kernel_rfl,Tryz.underlying4,laid_ok,fun t h => ?_⟩
 simp only [List.mem_cons,List.not_mem_nil,or_false] at h
 rcases h with rfl | rfl
 ·exact plain30
 ·exact plain67

theorem replyFewest_all (xs : List AV) (h : GoodAll Tryz.prog [30,67] xs) : ∃ K : AV → Mem → Prop,ACall Tryz.prog 8 xs (fun _ => .none) K ∧ ∀ r m,K r m → r = .bool true := by
 match xs,h with
 | [a0,a1],⟨⟨l0,g0,h0⟩,⟨l1,g1,h1⟩,_⟩ =>
  obtain ⟨b,hb,e0⟩ := open_book g0
  obtain ⟨x,y,hx,hy,e1⟩ := open_h2 g1
  rw [h0,e0,h1,e1]
  exact ⟨_,replyFewest_c b hb.names x y hx hy _,fun r m h => h.1⟩

theorem replyFewest_lifted (os : Os) (started : os.Started) (H : Type) (enc : TypeId × Value → H) :
  ReturnsInHanded {} Tryz.checked os 8 .any (Rows.replyFewestSpec.pre6 enc Tryz.prog Tryz.f8 Rows.replyFewestRow.domain false) (Rows.replyFewestSpec.post enc Tryz.prog Tryz.f8 false true false false) := by
 refine returnsInHanded_of_change_sized (C := Tryz.checked) own_ok started (by kernel_rfl) Tryz.func8
  (ChangeSpec.witness6 (enc := enc) (C := Tryz.checked) false ⟨#[],#[.agg #[.int .i64 0,.int .i64 0,.slice .none 0 0,.slice .none 0 0,.slice .none 0 0,.slice .none 0 0,.int .i64 0,.slice .none 0 0],.agg #[.int .u16 0,.int .u16 0]],[]⟩ 8 (by kernel_rfl) (by kernel_rfl) (by kernel_rfl) (by kernel_rfl)) ?_
 intro W base args ds gs before hval hW _ hz _
 refine law_contract replyFewest_types rfl (fun ds hds => ?_) replyFewest_all W base args ds gs before hval hW hz
 match ds,hds with
 | [d0,d1],_ => rfl

theorem replyFewest_holds : Rows.ReplyFewestSaid :=
 OpenClaim.holds_of_wide 8 Tryz.f8 rfl rfl rfl rfl rfl rfl rfl ⟨rfl,rfl,rfl,rfl,rfl⟩ rfl rfl rfl rfl rfl (by kernel_rfl) Tryz.func8 (by kernel_rfl)
  (of_decide_eq_true (by kernel_rfl)) (by unfold Func.isWrapper; first | (rw [if_pos (by decide +kernel)]; kernel_rfl) | (rw [if_neg (by decide +kernel)]; exact ⟨rfl,rfl⟩))
  (fun os started H enc _ => replyFewest_lifted os started H enc)
end Go.Proofs.YtnfmmhmfbipkjaaGreat
