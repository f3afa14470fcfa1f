/- The statement ReplyTrue: for any book and past the law returns true. Conditions: none. -/
import Derived.Test.YtnfmmhmfbipkjaaGreatU13
import Derived.Test.YtnfmmhmfbipkjaaGreatU16
import Derived.Test.YtnfmmhmfbipkjaaGreatU3
namespace Go.Proofs.YtnfmmhmfbipkjaaGreat.Abs
set_option linter.unusedSimpArgs false
open Go Go.RowKit Go.Proofs

/-- Is an answer's letter as it may be,in a truth? -/
def okB (b : RBook) (t : RTru) (w : List Int) (a : Nat) : Bool := decide (w[a]! = -1) || ((decide (0 ≤ w[a]! ∧ w[a]! ≤ (b.words.length : Int) - 1) && !decide (w[a]! ∈ w.take a)) && canR b t a (w[a]!).toNat)
def isTo (b : RBook) (t : RTru) (w : List Int) (n : Nat) : Bool := (List.range n).all fun a => okB b t w a
theorem isTo_succ (b : RBook) (t : RTru) (w : List Int) (n : Nat) : isTo b t w (n + 1) = (isTo b t w n && okB b t w n) := by
 unfold isTo; rw [List.range_succ,List.all_append]; simp
def metTo (b : RBook) (T : List RTru) (w : List Int) (n : Nat) : Bool := (List.range n).any fun i => isTo b (T[i]!) w w.length
theorem metTo_succ (b : RBook) (T : List RTru) (w : List Int) (n : Nat) : metTo b T w (n + 1) = (metTo b T w n || isTo b (T[n]!) w w.length) := by
 unfold metTo; rw [List.range_succ,List.any_append]; simp
theorem okB_way {b : RBook} (hb : BOk b) {t : RTru} {w : List Int} (h : w ∈ waysR b t) {a : Nat} (ha : a < w.length) : okB b t w a = true := by
 obtain ⟨h1,h2⟩ := mem_waysR.1 h
 unfold okB
 rcases h2 a (by omega) with q | ⟨k,k1,k2,k3,k4⟩
 ·rw [decide_eq_true q]; rfl
 ·have hw := hb.w
  rw [k2,decide_eq_true (show (0 : Int) ≤ (k : Int) ∧ (k : Int) ≤ (b.words.length : Int) - 1 by omega),decide_eq_false k3,Int.toNat_natCast,k4]
  simp
theorem fewest_met {b : RBook} (hb : BOk b) : metTo b (truthsR b.harb []) (bestR b) (truthsR b.harb []).length = true := by
 obtain ⟨x,hx,e⟩ := bestR_fair hb
 obtain ⟨h1,h2,_⟩ := fair_mem.1 hx
 obtain ⟨i,hi,ei⟩ := List.mem_iff_getElem.1 h1
 unfold metTo
 rw [List.any_eq_true]
 refine ⟨i,List.mem_range.2 hi,?_⟩
 unfold isTo
 rw [List.all_eq_true]
 intro a ha
 rw [getD_any hi,ei]
 rw [e] at h2
 exact okB_way hb h2 (List.mem_range.1 ha)
theorem bestR_length {b : RBook} (hb : BOk b) : (bestR b).length = b.answers.length := by
 obtain ⟨x,hx,e⟩ := bestR_fair hb
 rw [← e]; exact fair_len hx
theorem bestR_many {b : RBook} (hb : BOk b) : manyL (bestR b) = leastR b := by
 obtain ⟨x,hx,e⟩ := bestR_fair hb
 rw [← e]; exact (fair_mem.1 hx).2.2
theorem fewest_no {b : RBook} (hb : BOk b) {t : RTru} (ht : t ∈ truthsR b.harb []) {w : List Int} (hw : w ∈ waysR b t) : leastR b < manyL w ∨ (manyL w = leastR b ∧ befL w (bestR b) = false) := by
 have h1 := least_le ht hw
 by_cases q : manyL w = leastR b
 ·refine .inr ⟨q,?_⟩
  have hf : (t,w) ∈ fairR b := fair_mem.2 ⟨ht,hw,q⟩
  obtain ⟨i,hi,ei⟩ := List.mem_iff_getElem.1 hf
  have hp := fair_pos hb
  have := (bestF_min (F := fairR b) (n := b.answers.length) (fun i hi => fair_way hi) ((fairR b).length - 1) (by omega)).2 i (by omega)
  rw [getD_any hi,ei] at this
  exact this
 ·exact .inl (by omega)
end Go.Proofs.YtnfmmhmfbipkjaaGreat.Abs

namespace Go.Proofs.YtnfmmhmfbipkjaaGreat.Abs
set_option linter.unusedSimpArgs false
set_option maxHeartbeats 4000000
set_option maxRecDepth 100000
open Go Go.RowKit Go.Proofs

theorem inside6_c (n lo hi : Int) : PCall Tryz.prog 37 [.int .i64 n,.agg [.int .i64 lo,.int .i64 hi]] (.bool (decide (lo ≤ n ∧ n ≤ hi))) := by
 intro m
 have a1 := in_c n lo hi
 (refine acall_intro (E := envC (modeAt [] []) false []) (envCOk _ _ _) rfl Tryz.func37 rfl Tryz.call37 (by kernel_rfl) (by simp [Tryz.ntmps37]) ?_; simp only [Tryz.f37];  simp(maxSteps:=9^9)only[↓VX,VQ,seval,Int.reduceEq])
 ((refine ACall.pure (a1) ?_; try simp(maxSteps:=9^9)only[↓VX,VQ,seval]); try simp(maxSteps:=9^9)only[↓VX,VQ,seval,GL])
theorem strays_err (b : RBook) : (straysR b).2.2 = (checkB b).2.2 := by
 unfold straysR
 split
 ·rename_i q; exact q.symm
 ·rfl

theorem replyTrue_bad (b : RBook) (hs : hnamesFit b.harb) (n : Nat) (ys ws ls : List Nat) (e : ¬ (checkB b).2.2 = 0) : PCall Tryz.prog 7 [bookA b,.agg [.int .u16 n,.slice 1 (u8s ys),.slice 1 (u8s ws),.slice 1 (u8s ls)]] (.bool true) := by
 intro m
 have v1 := valid6_c b hs
 have s1 := strays_top b hs
 have aw := awake_c
 have e2 : (straysR b).2.2 ≠ 0 := by rw [strays_err]; exact e
 rw [decide_eq_false e] at v1
 generalize straysR b = S1 at *
 simp only [bookA,bookL,harbL,List.cons_append,List.nil_append,ints] at *
 (refine acall_intro (E := envC (modeAt [8,24] []) false []) (envCOk _ _ _) rfl Tryz.func7 rfl Tryz.call7 (by kernel_rfl) (by simp [Tryz.ntmps7]) ?_; simp only [Tryz.f7];  simp(maxSteps:=9^9)only[↓VX,VQ,seval,Int.reduceEq])
 ((refine ACall.pure (v1) ?_; try simp(maxSteps:=9^9)only[↓VX,VQ,seval]); try simp(maxSteps:=9^9)only[↓VX,VQ,seval,GL])
 (refine ACall.pure (s1) ?_; try simp(maxSteps:=9^9)only[↓VX,VQ,seval,GL,e2])
 repeat'(first|intro _|apply And.intro)
 all_goals try first|omega|(simp only[LL];omega)|exact nlC (by decide) _|exact nbC rfl
 ((refine ACall.pure (aw) ?_; try simp(maxSteps:=9^9)only[↓VX,VQ,seval]); try simp(maxSteps:=9^9)only[↓VX,VQ,seval,GL])

theorem replyTrue_ok (b : RBook) (hs : hnamesFit b.harb) (n : Nat) (hn : n < 65536) (ys : List Nat) (hy : ∀ x ∈ ys,x < 256) (ws : List Nat) (hw : ∀ x ∈ ws,x < 256) (ls : List Nat) (hl : ∀ x ∈ ls,x < 256) (e : (checkB b).2.2 = 0) : PCall Tryz.prog 7 [bookA b,.agg [.int .u16 n,.slice 1 (u8s ys),.slice 1 (u8s ws),.slice 1 (u8s ls)]] (.bool true) := by
 intro m
 have hnl := (bok_check e).h.nl
 have hna := (bok_check e).n
 have v1 := valid6_c b hs
 rw [decide_eq_true e] at v1
 have aw := awake_c
 have t1 := told6_c b e n hn ys ws ls hy hw hl
 have w := real_went (check_harb e) n ys
 generalize realF b.harb n = f at *
 generalize realTo b.harb f ys b.harb.letters.length = all at *
 have hal := w.n
 have hq := toldB_check e w ws ls
 have hbz := toldB_bok e w ws ls
 have d1 := first_top (toldB b f all ws ls) hs
 rw [first_ok hq,toldB_least e w] at d1
 have hbl := bestR_length hbz
 rw [toldB_n e w] at hbl
 have s1 := strays_top (toldB b f all ws ls) hs
 rw [toldB_strays e w] at s1
 have be := fun a k : Nat => belongs_top (toldB b f all ws ls) hs a k
 have co := fun a : Nat => could_top (toldB b f all ws ls) hs a
 have ca := fun k : Nat => came_top (toldB b f all ws ls) hs k
 have be2 := fun (a : Nat) (h : a < (gotT b f all ls).length) => toldB_belongs e w ws ls h
 have co2 := fun (a : Nat) (h : a < (gotT b f all ls).length) => toldB_could e w ws ls h
 have ca2 := fun (k : Nat) (h : k < (idxTo all all.length).length) => toldB_came e w ws ls h
 have ha := fun a k : Nat => has_c (couldR (toldB b f all ws ls) a).1 k
 have gI := fun (a : Nat) (h : a < (gotT b f all ls).length) => gotI_at e w ls h
 have gn := gotI_n e w ls
 have ggl : (gotT b f all ls).length ≤ b.answers.length := got_length _
 have hZ := hok_check (told_check (check_harb e) w)
 have hfk := went_fok (check_harb e) w
 have dy := fun (s : Nat) (q : s < b.harb.ships.length) (p : Int) => refday_c (toldH b.harb f all) hZ f s p q (by rw [hfk.n]; exact q) (hfk.late s (by rw [hfk.n]; exact q))
 have ow := fun (k : Nat) (q : k < (idxTo all all.length).length) => (told_own (check_harb e) w q).2
 have hdt : ∀ k,dayT b f all k = dayR (toldH b.harb f all) f ((ownTo all all.length)[k]!).toNat ((toldH b.harb f all).letters[k]!).port := fun k => rfl
 obtain ⟨o1,o2⟩ := own_n e w
 have hol := ownTo_length all all.length
 have eb : bookA (toldB b f all ws ls) = .agg (harbL (toldH b.harb f all) ++ [ints (wordsT b all),.int .i64 b.back,.slice 3 ((toldB b f all ws ls).answers.map ansA)]) := rfl
 rw [eb] at d1 s1 t1
 simp only [eb] at be co ca
 clear eb hq hbz hZ
 generalize (toldB b f all ws ls).answers = AN at *
 generalize bestR (toldB b f all ws ls) = BE at *
 generalize belongsR (toldB b f all ws ls) = BR at *
 generalize couldR (toldB b f all ws ls) = CR at *
 generalize cameR (toldB b f all ws ls) = CA at *
 generalize gotI b f all ls = GI at *
 generalize gotT b f all ls = G at *
 generalize wordsT b all = WT at *
 generalize ownTo all all.length = O at *
 generalize dayT b f all = DT at *
 generalize (idxTo all all.length).length = K at *
 generalize toldH b.harb f all = Z at *
 have ins := fun k : Nat => inside6_c (DT k) (CA k).1.lo (CA k).1.hi
 simp only [bookA,bookL,harbA,harbL,List.cons_append,List.nil_append,ints,fatesA,List.map_nil] at *
 (refine acall_intro (E := envC (modeAt [8,24] []) false []) (envCOk _ _ _) rfl Tryz.func7 rfl Tryz.call7 (by kernel_rfl) (by simp [Tryz.ntmps7]) ?_; simp only [Tryz.f7];  simp(maxSteps:=9^9)only[↓VX,VQ,seval,Int.reduceEq])
 ((refine ACall.pure (v1) ?_; try simp(maxSteps:=9^9)only[↓VX,VQ,seval]); try simp(maxSteps:=9^9)only[↓VX,VQ,seval,GL])
 ((refine ACall.pure (t1) ?_; try simp(maxSteps:=9^9)only[↓VX,VQ,seval]); try simp(maxSteps:=9^9)only[↓VX,VQ,seval,GL])
 ((refine ACall.pure (d1) ?_; try simp(maxSteps:=9^9)only[↓VX,VQ,seval]); try simp(maxSteps:=9^9)only[↓VX,VQ,seval,GL])
 (refine ACall.pure (s1) ?_; try simp(maxSteps:=9^9)only[↓VX,VQ,seval,GL,List.length_nil])
 repeat'(first|intro _|apply And.intro)
 all_goals try first|omega|(simp only[LL];omega)|exact nlC (by decide) _|exact nbC rfl
 refine ALoop.freeze 8 ?_
 simp(maxSteps:=9^9)only[↓VX,VQ,seval]
 refine aloop (envCOk _ _ _) (fun a : Nat => ⟨[(8,.v (.eptr [.int .i64 Z.ports,.int .i64 Z.lost,.slice 5 (Z.ships.map shipA),.slice 3 (Z.letters.map letA),.slice 4 (Z.reports.map repA),.slice 1 (WT.map (AV.int .i64)),.int .i64 b.back,.slice 3 (AN.map ansA)])),(9,.v (.slice 2 (f.map fateA))),(10,.v (.slice 1 (O.map (AV.int .i64)))),(11,.v (.slice 1 (GI.map (AV.int .i64)))),(18,.v (.int .i64 a))],[],[],m⟩)
  (fun a => a ≤ G.length) (fun a => G.length - a) 0 (fun _ => rfl) (by simp) (by (simp only [FE,↓FP,seval]); try simp) ?_
 intro a hag
 have coa := co a
 rcases Nat.lt_or_ge a G.length with hlt | hge
 ·obtain ⟨b1,b2⟩ := be2 a hlt
  obtain ⟨b3,b4⟩ := co2 a hlt
  have gIa := gI a hlt
  have bea := be a (G[a]!)
  have haa := ha a (G[a]!)
  rw [decide_eq_true b4] at haa
  rw [b1] at bea
  rw [b3] at coa
  generalize BR (a : Int) ((G[a]! : Nat) : Int) = BV at *
  generalize CR (a : Int) = CV at *
  generalize G[a]! = g at *
  clear be co be2 co2 ha ca ca2 dy ins gI b4
  simp(maxSteps:=9^9)only[↓VX,VQ,seval,gIa]
  repeat'(first|intro _|apply And.intro)
  all_goals try first|omega|(simp only[LL];omega)|exact nlC (by decide) _|exact nbC rfl
  (refine adraw (by first | exact envOk _ | exact envCOk _ _ _) mixed [⟨false,false,0⟩,⟨false,false,0⟩,⟨false,false,0⟩,⟨false,false,0⟩,⟨false,false,0⟩,⟨false,false,0⟩,⟨false,false,0⟩,⟨false,false,0⟩,⟨false,false,0⟩,⟨false,false,0⟩,⟨false,false,0⟩,⟨false,false,0⟩] (by kernel_rfl) ?_; show vcOpsD _ _ _ (_ :: _) _ _)
  simp(maxSteps:=9^9)only[↓VX,VQ,seval,gIa]
  repeat'(first|intro _|apply And.intro)
  all_goals try first|omega|(simp only[LL];omega)|exact nlC (by decide) _|exact nbC rfl
  refine VPure.of bea ?_
  simp(maxSteps:=9^9)only[↓VX,VQ,seval,gIa]
  repeat'(first|intro _|apply And.intro)
  all_goals try first|omega|(simp only[LL];omega)|exact nlC (by decide) _|exact nbC rfl
  (refine ACall.pure (coa) ?_; try simp(maxSteps:=9^9)only[↓VX,VQ,seval,GL,gIa])
  repeat'(first|intro _|apply And.intro)
  all_goals try first|omega|(simp only[LL];omega)|exact nlC (by decide) _|exact nbC rfl
  ((refine ACall.pure (haa) ?_; try simp(maxSteps:=9^9)only[↓VX,VQ,seval]); try simp(maxSteps:=9^9)only[↓VX,VQ,seval,GL])
  repeat'(first|intro _|apply And.intro)
  all_goals try first|omega|(simp only[LL];omega)|exact nlC (by decide) _|exact nbC rfl
  (refine ⟨a + 1,by first | omega | (dsimp only; omega),by dsimp only; omega,?_⟩; (simp only [FE,↓FP,seval]); try simp [])
 ·have hae : a = G.length := by omega
  subst hae
  clear be co be2 co2 ha coa gI
  simp(maxSteps:=9^9)only[↓VX,VQ,seval]
  repeat'(first|intro _|apply And.intro)
  all_goals try first|omega|(simp only[LL];omega)|exact nlC (by decide) _|exact nbC rfl
  refine aloop (envCOk _ _ _) (fun k : Nat => ⟨[(8,.v (.eptr [.int .i64 Z.ports,.int .i64 Z.lost,.slice 5 (Z.ships.map shipA),.slice 3 (Z.letters.map letA),.slice 4 (Z.reports.map repA),.slice 1 (WT.map (AV.int .i64)),.int .i64 b.back,.slice 3 (AN.map ansA)])),(9,.v (.slice 2 (f.map fateA))),(10,.v (.slice 1 (O.map (AV.int .i64)))),(11,.v (.slice 1 (GI.map (AV.int .i64)))),(23,.v (.int .i64 k))],[],[],m⟩)
   (fun k => k ≤ O.length) (fun k => O.length - k) 0 (fun _ => rfl) (by simp) (by (simp only [FE,↓FP,seval]); try simp) ?_
  intro k hk
  rcases Nat.lt_or_ge k O.length with hlt | hge
  ·have hkK : k < K := by omega
   obtain ⟨g1,g2,g3⟩ := ca2 k hkK
   obtain ⟨w1,w2⟩ := ow k hkK
   have cak := ca k
   have insk := ins k
   have dyk := dy (O[k]!).toNat w2 (Z.letters[k]!).port
   rw [← w1,← hdt k] at dyk
   rw [g1] at cak
   clear ca ca2 ins dy ow hdt
   generalize CA (k : Int) = CK at *
   generalize DT k = D at *
   simp(maxSteps:=9^9)only[↓VX,VQ,seval]
   repeat'(first|intro _|apply And.intro)
   all_goals try first|omega|(simp only[LL];omega)|exact nlC (by decide) _|exact nbC rfl
   ((refine ACall.pure (cak) ?_; try simp(maxSteps:=9^9)only[↓VX,VQ,seval]); try simp(maxSteps:=9^9)only[↓VX,VQ,seval,GL])
   repeat'(first|intro _|apply And.intro)
   all_goals try first|omega|(simp only[LL];omega)|exact nlC (by decide) _|exact nbC rfl
   (refine adraw (by first | exact envOk _ | exact envCOk _ _ _) mixed [⟨false,false,0⟩,⟨false,false,0⟩,⟨false,false,0⟩,⟨false,false,0⟩,⟨false,false,0⟩,⟨false,false,0⟩,⟨false,false,0⟩,⟨false,false,0⟩,⟨false,false,0⟩,⟨false,false,0⟩,⟨false,false,0⟩,⟨false,false,0⟩,⟨false,false,0⟩,⟨false,false,0⟩,⟨false,false,0⟩,⟨false,false,0⟩] (by kernel_rfl) ?_; show vcOpsD _ _ _ (_ :: _) _ _)
   simp(maxSteps:=9^9)only[↓VX,VQ,seval]
   repeat'(first|intro _|apply And.intro)
   all_goals try first|omega|(simp only[LL];omega)|exact nlC (by decide) _|exact nbC rfl
   refine VPure.of dyk ?_
   by_cases q : 0 ≤ D
   ·obtain ⟨g4,g5⟩ := g2 q
    rw [decide_eq_true g5] at insk
    have q' : ¬ D < 0 := by omega
    simp(maxSteps:=9^9)only[↓VX,VQ,seval,q,q',g4]
    repeat'(first|intro _|apply And.intro)
    all_goals try first|omega|(simp only[LL];omega)|exact nlC (by decide) _|exact nbC rfl
    (refine ACall.pure (insk) ?_; try simp(maxSteps:=9^9)only[↓VX,VQ,seval,GL,q,q',g4])
    repeat'(first|intro _|apply And.intro)
    all_goals try first|omega|(simp only[LL];omega)|exact nlC (by decide) _|exact nbC rfl
    (refine ⟨k + 1,by first | omega | (dsimp only; omega),by dsimp only; omega,?_⟩; (simp only [FE,↓FP,seval]); try simp [])
   ·have g4 := g3 (by omega)
    have q' : D < 0 := by omega
    simp(maxSteps:=9^9)only[↓VX,VQ,seval,q,q',g4]
    repeat'(first|intro _|apply And.intro)
    all_goals try first|omega|(simp only[LL];omega)|exact nlC (by decide) _|exact nbC rfl
    (refine ⟨k + 1,by first | omega | (dsimp only; omega),by dsimp only; omega,?_⟩; (simp only [FE,↓FP,seval]); try simp [])
  ·have hke : k = O.length := by omega
   subst hke
   simp(maxSteps:=9^9)only[↓VX,VQ,seval]
   repeat'(first|intro _|apply And.intro)
   all_goals try first|omega|(simp only[LL];omega)|exact nlC (by decide) _|exact nbC rfl
   ((refine ACall.pure (aw) ?_; try simp(maxSteps:=9^9)only[↓VX,VQ,seval]); try simp(maxSteps:=9^9)only[↓VX,VQ,seval,GL])
theorem replyTrue_c (b : RBook) (hs : hnamesFit b.harb) (n : Nat) (hn : n < 65536) (ys : List Nat) (hy : ∀ x ∈ ys,x < 256) (ws : List Nat) (hw : ∀ x ∈ ws,x < 256) (ls : List Nat) (hl : ∀ x ∈ ls,x < 256) : PCall Tryz.prog 7 [bookA b,.agg [.int .u16 n,.slice 1 (u8s ys),.slice 1 (u8s ws),.slice 1 (u8s ls)]] (.bool true) := by
 by_cases e : (checkB b).2.2 = 0
 ·exact replyTrue_ok b hs n hn ys hy ws hw ls hl e
 ·exact replyTrue_bad b hs n ys ws ls e
end Go.Proofs.YtnfmmhmfbipkjaaGreat.Abs

namespace Go.Proofs.YtnfmmhmfbipkjaaGreat
set_option linter.unusedSimpArgs false
open Go Go.RowKit Go.Proofs Abs
set_option maxRecDepth 100000

theorem replyTrue_types : LawTypes Tryz.prog Tryz.f7 [30,56] 4 9 := by
 refine ⟨by rw [Tryz.params7],by kernel_rfl,Tryz.underlying4,laid_ok,fun t h => ?_⟩
 simp only [List.mem_cons,List.not_mem_nil,or_false] at h
 rcases h with rfl | rfl
 ·exact plain30
 ·exact plain56

theorem replyTrue_all (xs : List AV) (h : GoodAll Tryz.prog [30,56] xs) : ∃ K : AV → Mem → Prop,ACall Tryz.prog 7 xs (fun _ => .none) K ∧ ∀ r m,K r m → r = .bool true := by
 match xs,h with
 | [a0,a1],⟨⟨l0,g0,h0⟩,⟨l1,g1,h1⟩,_⟩ =>
  obtain ⟨b,hb,e0⟩ := open_book g0
  obtain ⟨n,ys,ws,ls,hn,hy,hw,hl,e1⟩ := open_past6 g1
  rw [h0,e0,h1,e1]
  exact ⟨_,replyTrue_c b hb.names n hn ys hy ws hw ls hl _,fun r m h => h.1⟩

theorem replyTrue_lifted (os : Os) (started : os.Started) (H : Type) (enc : TypeId × Value → H) :
  ReturnsInHanded {} Tryz.checked os 7 .any (Rows.replyTrueSpec.pre6 enc Tryz.prog Tryz.f7 Rows.replyTrueRow.domain false) (Rows.replyTrueSpec.post enc Tryz.prog Tryz.f7 false true false false) := by
 refine returnsInHanded_of_change_sized (C := Tryz.checked) own_ok started (by kernel_rfl) Tryz.func7
  (ChangeSpec.witness6 (enc := enc) (C := Tryz.checked) false ⟨#[],#[.agg #[.int .i64 0,.int .i64 0,.slice .none 0 0,.slice .none 0 0,.slice .none 0 0,.slice .none 0 0,.int .i64 0,.slice .none 0 0],.agg #[.int .u16 0,.slice .none 0 0,.slice .none 0 0,.slice .none 0 0]],[]⟩ 8 (by kernel_rfl) (by kernel_rfl) (by kernel_rfl) (by kernel_rfl)) ?_
 intro W base args ds gs before hval hW _ hz _
 refine law_contract replyTrue_types rfl (fun ds hds => ?_) replyTrue_all W base args ds gs before hval hW hz
 match ds,hds with
 | [d0,d1],_ => rfl

theorem replyTrue_holds : Rows.ReplyTrueSaid :=
 OpenClaim.holds_of_wide 7 Tryz.f7 rfl rfl rfl rfl rfl rfl rfl ⟨rfl,rfl,rfl,rfl,rfl⟩ rfl rfl rfl rfl rfl (by kernel_rfl) Tryz.func7 (by kernel_rfl)
  (of_decide_eq_true (by kernel_rfl)) (by unfold Func.isWrapper; first | (rw [if_pos (by decide +kernel)]; kernel_rfl) | (rw [if_neg (by decide +kernel)]; exact ⟨rfl,rfl⟩))
  (fun os started H enc _ => replyTrue_lifted os started H enc)
end Go.Proofs.YtnfmmhmfbipkjaaGreat
