/- The statement TopLacked: for any book,answer and letter the law returns true. Conditions: none. -/
import Derived.Test.YtikodjpbknneoaaGreatW13
import Derived.Test.YtikodjpbknneoaaGreatW15
import Derived.Test.YtikodjpbknneoaaGreatW14
namespace Go.Proofs.YtikodjpbknneoaaGreat.Abs
set_option linter.unusedSimpArgs false
set_option maxHeartbeats 4000000
set_option maxRecDepth 100000
open Go Go.RowKit Go.Proofs

theorem natModT (a b : Nat) : ((a : Int) % (b : Int)) = ((a % b : Nat) : Int) := (Int.natCast_emod a b).symm

theorem topLacked_no (b : RBook) (hs : hnamesFit b.harb) (x y : Nat) (e : ¬ ((checkB b).2.2 = 0 ∧ 0 < b.answers.length ∧ 0 < b.words.length)) : PCall Tryz.prog 3 [bookA b,.agg [.int .u8 x,.int .u8 y]] (.bool true) := by
  intro m
  have v1 := refcheckB_c b hs
  have c1 := could_top b hs 0
  have aw4 := awake4_c
  have aw := awake_c
  have hne := could_no (b := b)
  generalize couldR b 0 = C at *
  generalize checkB b = K at *
  simp only [bookA,bookL,harbL,List.cons_append,List.nil_append,ints] at *
  (refine acall_intro (E := envC (modeAt [17,22] []) false []) (envCOk _ _ _) rfl Tryz.func3 rfl Tryz.call3 (by kernel_rfl) (by simp [Tryz.ntmps3]) ?_; simp only [Tryz.f3];  simp(maxSteps:=9^9)only[↓VX,VQ,seval,Int.reduceEq])
  ((refine ACall.pure (v1) ?_; try simp(maxSteps:=9^9)only[↓VX,VQ,seval]); try simp(maxSteps:=9^9)only[↓VX,VQ,seval,GL])
  repeat'(first|intro _|apply And.intro)
  all_goals try first|omega|(simp only[LL];omega)|exact nlC (by decide) _|exact nbC rfl
  all_goals try (exfalso; omega)
  all_goals (((refine ACall.pure (c1) ?_; try simp(maxSteps:=9^9)only[↓VX,VQ,seval]); try simp(maxSteps:=9^9)only[↓VX,VQ,seval,GL]))
  all_goals repeat'(first|intro _|apply And.intro)
  all_goals try (exfalso; omega)
  all_goals (((refine ACall.pure (aw4) ?_; try simp(maxSteps:=9^9)only[↓VX,VQ,seval]); try simp(maxSteps:=9^9)only[↓VX,VQ,seval,GL]))
  all_goals (((refine ACall.pure (aw) ?_; try simp(maxSteps:=9^9)only[↓VX,VQ,seval]); try simp(maxSteps:=9^9)only[↓VX,VQ,seval,GL]))

theorem topLacked_ok (b : RBook) (hs : hnamesFit b.harb) (x y : Nat) (hx : x < 256) (hy : y < 256) (e : (checkB b).2.2 = 0) (hn : 0 < b.answers.length) (hl : 0 < b.words.length) : PCall Tryz.prog 3 [bookA b,.agg [.int .u8 x,.int .u8 y]] (.bool true) := by
  intro m
  have hb := bok_check e
  have hw := hb.w
  have hnn := hb.n
  have hnl := hb.h.nl
  have hnr := hb.h.nr
  have hbk := hb.back
  have v1 := refcheckB_c b hs
  have aw4 := awake4_c
  have aw := awake_c
  have ha : x % b.answers.length < b.answers.length := Nat.mod_lt x hn
  have hk : y % b.words.length < b.words.length := Nat.mod_lt y hl
  have hmod := natModT x b.answers.length
  have hmod2 := natModT y b.words.length
  generalize x % b.answers.length = a at *
  generalize y % b.words.length = k at *
  have hkl : k < b.harb.letters.length := by omega
  have han := (hb.ans a ha).2.2
  have b1 := belongs_top b hs a k
  have c1 := could_top b hs a
  have m1 := came_top b hs k
  have h1 := has_c (couldR b a).1 k
  have o1 := come_top b.harb hs k ((b.answers[a]!).day - b.back)
  have v2 := refcheckB_c (heardB b (lackR k ((b.answers[a]!).day - b.back))) hs
  have b2 := belongs_top (heardB b (lackR k ((b.answers[a]!).day - b.back))) hs a k
  have c2 := could_top (heardB b (lackR k ((b.answers[a]!).day - b.back))) hs a
  have h2 := has_c (couldR (heardB b (lackR k ((b.answers[a]!).day - b.back))) a).1 k
  have o2 := come_top (moreH b.harb (lackR k ((b.answers[a]!).day - b.back))) hs k ((b.answers[a]!).day - b.back)
  obtain ⟨l1,l2,l3,l4,l5,l6,l7⟩ := lacked_law e ha hkl
  have law := fun h0 q => lack_law e ha hkl h0 q
  rw [e] at v1
  rw [l1] at b1
  rw [l2] at c1
  rw [l3] at m1
  have ez : bookA (heardB b (lackR k ((b.answers[a]!).day - b.back))) = .agg (harbL (moreH b.harb (lackR k ((b.answers[a]!).day - b.back))) ++ [ints b.words,.int .i64 b.back,.slice 3 (b.answers.map ansA)]) := rfl
  rw [ez] at v2 b2 c2
  clear ez l1 l2 l3
  generalize hhb : decide ((k : Int) ∈ (couldR b a).1) = hb1 at *
  have f4 : (belongsR b a k).1 ≠ 2 → hb1 = true := fun q => by rw [← hhb]; exact decide_eq_true (l4 q)
  have f6 : (b.answers[a]!).day - b.back < 0 → (belongsR b a k).1 = 2 ∧ hb1 = false := fun q => ⟨(l6 q).1,by rw [← hhb]; exact decide_eq_false (l6 q).2⟩
  have f7 : 0 ≤ (b.answers[a]!).day - b.back → (comeR b.harb k ((b.answers[a]!).day - b.back)).2 = 0 ∧ ((comeR b.harb k ((b.answers[a]!).day - b.back)).1 = 2 → (belongsR b a k).1 = 2 ∧ hb1 = false) := fun q => ⟨(l7 q).1,fun q2 => ⟨((l7 q).2 q2).1,by rw [← hhb]; exact decide_eq_false ((l7 q).2 q2).2⟩⟩
  clear l4 l6 l7 hhb
  generalize checkB b = K1 at *
  generalize checkB (heardB b (lackR k ((b.answers[a]!).day - b.back))) = K2 at *
  generalize belongsR (heardB b (lackR k ((b.answers[a]!).day - b.back))) = BR2 at *
  generalize couldR (heardB b (lackR k ((b.answers[a]!).day - b.back))) = CR2 at *
  generalize comeR (moreH b.harb (lackR k ((b.answers[a]!).day - b.back))) = CO2 at *
  generalize belongsR b = BR at *
  generalize couldR b = CR at *
  generalize cameR b = CA at *
  generalize comeR b.harb = CO at *
  simp only [bookA,bookL,harbA,harbL,List.cons_append,List.nil_append,ints,moreH,List.map_append,List.map_cons,List.map_nil,repA,lackR] at *
  generalize BR (a : Int) (k : Int) = BV at *
  generalize CR (a : Int) = CV at *
  generalize CA (k : Int) = MV at *
  generalize CO (k : Int) ((b.answers[a]!).day - b.back) = COV at *
  generalize BR2 (a : Int) (k : Int) = BV2 at *
  generalize CR2 (a : Int) = CV2 at *
  generalize CO2 (k : Int) ((b.answers[a]!).day - b.back) = COV2 at *
  clear hb
  (refine acall_intro (E := envC (modeAt [17,22] []) false []) (envCOk _ _ _) rfl Tryz.func3 rfl Tryz.call3 (by kernel_rfl) (by simp [Tryz.ntmps3]) ?_; simp only [Tryz.f3];  simp(maxSteps:=9^9)only[↓VX,VQ,seval,Int.reduceEq,buildV])
  (refine ACall.pure (v1) ?_; try simp(maxSteps:=9^9)only[↓VX,VQ,seval,GL,hmod,hmod2])
  repeat'(first|intro _|apply And.intro)
  all_goals try first|omega|(simp only[LL];omega)|exact nlC (by decide) _|exact nbC rfl
  (refine adraw (by first | exact envOk _ | exact envCOk _ _ _) mixed [⟨false,false,0⟩,⟨false,false,0⟩,⟨false,false,0⟩,⟨false,false,0⟩,⟨false,false,0⟩,⟨false,false,0⟩,⟨false,false,0⟩,⟨false,false,0⟩,⟨false,false,0⟩,⟨false,false,0⟩,⟨false,false,0⟩,⟨false,false,0⟩,⟨false,false,0⟩,⟨false,false,0⟩,⟨false,false,0⟩,⟨false,false,0⟩] (by kernel_rfl) ?_; show vcOpsD _ _ _ (_ :: _) _ _)
  simp(maxSteps:=9^9)only[↓VX,VQ,seval,hmod,hmod2]
  repeat'(first|intro _|apply And.intro)
  all_goals try first|omega|(simp only[LL];omega)|exact nlC (by decide) _|exact nbC rfl
  (refine adraw (by first | exact envOk _ | exact envCOk _ _ _) mixed [⟨false,false,0⟩,⟨false,false,0⟩,⟨false,false,0⟩,⟨false,false,0⟩,⟨false,false,0⟩,⟨false,false,0⟩,⟨false,false,0⟩,⟨false,false,0⟩,⟨false,false,0⟩,⟨false,false,0⟩] (by kernel_rfl) ?_; show vcOpsD _ _ _ (_ :: _) _ _)
  simp(maxSteps:=9^9)only[↓VX,VQ,seval,hmod,hmod2]
  repeat'(first|intro _|apply And.intro)
  all_goals try first|omega|(simp only[LL];omega)|exact nlC (by decide) _|exact nbC rfl
  · rfl
  · have : IntKind.i64.min = -9223372036854775808 := rfl
    omega
  · have : IntKind.i64.max = 9223372036854775807 := rfl
    omega
  cases hb1 with
  | false =>
    have f4 : BV.1 = 2 := by
      apply Decidable.byContradiction; intro q
      exact absurd (f4 q) (by decide)
    have f7 : 0 ≤ (b.answers[a]!).day - b.back → COV.2 = 0 := fun q => (f7 q).1
    clear l5 f6
    rw [f4] at b1
    ((refine ACall.pure (b1) ?_; try simp(maxSteps:=9^9)only[↓VX,VQ,seval]); try simp(maxSteps:=9^9)only[↓VX,VQ,seval,GL])
    ((refine ACall.pure (c1) ?_; try simp(maxSteps:=9^9)only[↓VX,VQ,seval]); try simp(maxSteps:=9^9)only[↓VX,VQ,seval,GL])
    ((refine ACall.pure (m1) ?_; try simp(maxSteps:=9^9)only[↓VX,VQ,seval]); try simp(maxSteps:=9^9)only[↓VX,VQ,seval,GL])
    repeat'(first|intro _|apply And.intro)
    all_goals try first|omega|(simp only[LL];omega)|exact nlC (by decide) _|exact nbC rfl
    · ((refine ACall.pure (h1) ?_; try simp(maxSteps:=9^9)only[↓VX,VQ,seval]); try simp(maxSteps:=9^9)only[↓VX,VQ,seval,GL])
      ((refine ACall.pure (aw4) ?_; try simp(maxSteps:=9^9)only[↓VX,VQ,seval]); try simp(maxSteps:=9^9)only[↓VX,VQ,seval,GL])
      ((refine ACall.pure (aw) ?_; try simp(maxSteps:=9^9)only[↓VX,VQ,seval]); try simp(maxSteps:=9^9)only[↓VX,VQ,seval,GL])
    · have hu : 0 ≤ (b.answers[a]!).day - b.back := by omega
      have law := law hu
      rw [f7 hu] at o1
      all_goals ((refine ACall.pure (o1) ?_; try simp(maxSteps:=9^9)only[↓VX,VQ,seval,GL,buildV]))
      all_goals repeat'(first|intro _|apply And.intro)
      all_goals all_goals try first|omega|(simp only[LL];omega)|exact nlC (by decide) _|exact nbC rfl
      all_goals try ((refine ACall.pure (h1) ?_; try simp(maxSteps:=9^9)only[↓VX,VQ,seval,GL,buildV]))
      all_goals try repeat'(first|intro _|apply And.intro)
      all_goals try all_goals try first|omega|(simp only[LL];omega)|exact nlC (by decide) _|exact nbC rfl
      all_goals ((refine ACall.pure (v2) ?_; try simp(maxSteps:=9^9)only[↓VX,VQ,seval,GL,buildV]))
      all_goals repeat'(first|intro _|apply And.intro)
      all_goals all_goals try first|omega|(simp only[LL];omega)|exact nlC (by decide) _|exact nbC rfl
      all_goals first
        | (((refine ACall.pure (aw4) ?_; try simp(maxSteps:=9^9)only[↓VX,VQ,seval]); try simp(maxSteps:=9^9)only[↓VX,VQ,seval,GL])
           ((refine ACall.pure (aw) ?_; try simp(maxSteps:=9^9)only[↓VX,VQ,seval]); try simp(maxSteps:=9^9)only[↓VX,VQ,seval,GL])
           done)
        | (have q : K2.2.2 = 0 := by first | assumption | (apply Decidable.byContradiction; assumption)
           obtain ⟨g1,g2,g3,g4,g5,g6,g7⟩ := law q
           rw [g1,g4] at b2
           rw [g2] at c2
           rw [decide_eq_false g5] at h2
           rw [g3,g6] at o2
           ((refine ACall.pure (b2) ?_; try simp(maxSteps:=9^9)only[↓VX,VQ,seval]); try simp(maxSteps:=9^9)only[↓VX,VQ,seval,GL])
           ((refine ACall.pure (c2) ?_; try simp(maxSteps:=9^9)only[↓VX,VQ,seval]); try simp(maxSteps:=9^9)only[↓VX,VQ,seval,GL])
           ((refine ACall.pure (o2) ?_; try simp(maxSteps:=9^9)only[↓VX,VQ,seval]); try simp(maxSteps:=9^9)only[↓VX,VQ,seval,GL])
           ((refine ACall.pure (h2) ?_; try simp(maxSteps:=9^9)only[↓VX,VQ,seval]); try simp(maxSteps:=9^9)only[↓VX,VQ,seval,GL])
           repeat'(first|intro _|apply And.intro)
           all_goals try first|omega|(simp only[LL];omega)|exact nlC (by decide) _|exact nbC rfl
           all_goals (((refine ACall.pure (aw4) ?_; try simp(maxSteps:=9^9)only[↓VX,VQ,seval]); try simp(maxSteps:=9^9)only[↓VX,VQ,seval,GL]))
           all_goals (((refine ACall.pure (aw) ?_; try simp(maxSteps:=9^9)only[↓VX,VQ,seval]); try simp(maxSteps:=9^9)only[↓VX,VQ,seval,GL]))
           done)
  | true =>
    have f6 : ¬ (b.answers[a]!).day - b.back < 0 := fun q => absurd (f6 q).2 (by decide)
    have hu : 0 ≤ (b.answers[a]!).day - b.back := by omega
    have law := law hu
    obtain ⟨f8,f9⟩ := f7 hu
    have f9 : COV.1 ≠ 2 := fun q => absurd (f9 q).2 (by decide)
    clear f4 f7
    rw [f8] at o1
    by_cases q1 : BV.1 = 1
    · obtain ⟨l6,l7⟩ := l5 q1
      clear l5
      rw [q1] at b1
      rw [l6] at m1
      ((refine ACall.pure (b1) ?_; try simp(maxSteps:=9^9)only[↓VX,VQ,seval]); try simp(maxSteps:=9^9)only[↓VX,VQ,seval,GL])
      ((refine ACall.pure (c1) ?_; try simp(maxSteps:=9^9)only[↓VX,VQ,seval]); try simp(maxSteps:=9^9)only[↓VX,VQ,seval,GL])
      ((refine ACall.pure (m1) ?_; try simp(maxSteps:=9^9)only[↓VX,VQ,seval]); try simp(maxSteps:=9^9)only[↓VX,VQ,seval,GL])
      ((refine ACall.pure (h1) ?_; try simp(maxSteps:=9^9)only[↓VX,VQ,seval]); try simp(maxSteps:=9^9)only[↓VX,VQ,seval,GL])
      repeat'(first|intro _|apply And.intro)
      all_goals try first|omega|(simp only[LL];omega)|exact nlC (by decide) _|exact nbC rfl
      all_goals ((refine ACall.pure (o1) ?_; try simp(maxSteps:=9^9)only[↓VX,VQ,seval,GL,buildV]))
      all_goals repeat'(first|intro _|apply And.intro)
      all_goals all_goals try first|omega|(simp only[LL];omega)|exact nlC (by decide) _|exact nbC rfl
      all_goals try ((refine ACall.pure (h1) ?_; try simp(maxSteps:=9^9)only[↓VX,VQ,seval,GL,buildV]))
      all_goals try repeat'(first|intro _|apply And.intro)
      all_goals try all_goals try first|omega|(simp only[LL];omega)|exact nlC (by decide) _|exact nbC rfl
      all_goals ((refine ACall.pure (v2) ?_; try simp(maxSteps:=9^9)only[↓VX,VQ,seval,GL,buildV]))
      all_goals repeat'(first|intro _|apply And.intro)
      all_goals all_goals try first|omega|(simp only[LL];omega)|exact nlC (by decide) _|exact nbC rfl
      all_goals first
        | (((refine ACall.pure (aw4) ?_; try simp(maxSteps:=9^9)only[↓VX,VQ,seval]); try simp(maxSteps:=9^9)only[↓VX,VQ,seval,GL])
           ((refine ACall.pure (aw) ?_; try simp(maxSteps:=9^9)only[↓VX,VQ,seval]); try simp(maxSteps:=9^9)only[↓VX,VQ,seval,GL])
           done)
        | (have q : K2.2.2 = 0 := by first | assumption | (apply Decidable.byContradiction; assumption)
           obtain ⟨g1,g2,g3,g4,g5,g6,g7⟩ := law q
           rw [g1,g4] at b2
           rw [g2] at c2
           rw [decide_eq_false g5] at h2
           rw [g3,g6] at o2
           ((refine ACall.pure (b2) ?_; try simp(maxSteps:=9^9)only[↓VX,VQ,seval]); try simp(maxSteps:=9^9)only[↓VX,VQ,seval,GL])
           ((refine ACall.pure (c2) ?_; try simp(maxSteps:=9^9)only[↓VX,VQ,seval]); try simp(maxSteps:=9^9)only[↓VX,VQ,seval,GL])
           ((refine ACall.pure (o2) ?_; try simp(maxSteps:=9^9)only[↓VX,VQ,seval]); try simp(maxSteps:=9^9)only[↓VX,VQ,seval,GL])
           ((refine ACall.pure (h2) ?_; try simp(maxSteps:=9^9)only[↓VX,VQ,seval]); try simp(maxSteps:=9^9)only[↓VX,VQ,seval,GL])
           repeat'(first|intro _|apply And.intro)
           all_goals try first|omega|(simp only[LL];omega)|exact nlC (by decide) _|exact nbC rfl
           all_goals (((refine ACall.pure (aw4) ?_; try simp(maxSteps:=9^9)only[↓VX,VQ,seval]); try simp(maxSteps:=9^9)only[↓VX,VQ,seval,GL]))
           all_goals (((refine ACall.pure (aw) ?_; try simp(maxSteps:=9^9)only[↓VX,VQ,seval]); try simp(maxSteps:=9^9)only[↓VX,VQ,seval,GL]))
           done)
    · clear l5
      ((refine ACall.pure (b1) ?_; try simp(maxSteps:=9^9)only[↓VX,VQ,seval]); try simp(maxSteps:=9^9)only[↓VX,VQ,seval,GL])
      ((refine ACall.pure (c1) ?_; try simp(maxSteps:=9^9)only[↓VX,VQ,seval]); try simp(maxSteps:=9^9)only[↓VX,VQ,seval,GL])
      ((refine ACall.pure (m1) ?_; try simp(maxSteps:=9^9)only[↓VX,VQ,seval]); try simp(maxSteps:=9^9)only[↓VX,VQ,seval,GL])
      repeat'(first|intro _|apply And.intro)
      all_goals try first|omega|(simp only[LL];omega)|exact nlC (by decide) _|exact nbC rfl
      all_goals try (((refine ACall.pure (h1) ?_; try simp(maxSteps:=9^9)only[↓VX,VQ,seval]); try simp(maxSteps:=9^9)only[↓VX,VQ,seval,GL]))
      all_goals try repeat'(first|intro _|apply And.intro)
      all_goals try all_goals try first|omega|(simp only[LL];omega)|exact nlC (by decide) _|exact nbC rfl
      all_goals ((refine ACall.pure (o1) ?_; try simp(maxSteps:=9^9)only[↓VX,VQ,seval,GL,buildV]))
      all_goals repeat'(first|intro _|apply And.intro)
      all_goals all_goals try first|omega|(simp only[LL];omega)|exact nlC (by decide) _|exact nbC rfl
      all_goals try ((refine ACall.pure (h1) ?_; try simp(maxSteps:=9^9)only[↓VX,VQ,seval,GL,buildV]))
      all_goals try repeat'(first|intro _|apply And.intro)
      all_goals try all_goals try first|omega|(simp only[LL];omega)|exact nlC (by decide) _|exact nbC rfl
      all_goals ((refine ACall.pure (v2) ?_; try simp(maxSteps:=9^9)only[↓VX,VQ,seval,GL,buildV]))
      all_goals repeat'(first|intro _|apply And.intro)
      all_goals all_goals try first|omega|(simp only[LL];omega)|exact nlC (by decide) _|exact nbC rfl
      all_goals first
        | (((refine ACall.pure (aw4) ?_; try simp(maxSteps:=9^9)only[↓VX,VQ,seval]); try simp(maxSteps:=9^9)only[↓VX,VQ,seval,GL])
           ((refine ACall.pure (aw) ?_; try simp(maxSteps:=9^9)only[↓VX,VQ,seval]); try simp(maxSteps:=9^9)only[↓VX,VQ,seval,GL])
           done)
        | (have q : K2.2.2 = 0 := by first | assumption | (apply Decidable.byContradiction; assumption)
           obtain ⟨g1,g2,g3,g4,g5,g6,g7⟩ := law q
           rw [g1,g4] at b2
           rw [g2] at c2
           rw [decide_eq_false g5] at h2
           rw [g3,g6] at o2
           ((refine ACall.pure (b2) ?_; try simp(maxSteps:=9^9)only[↓VX,VQ,seval]); try simp(maxSteps:=9^9)only[↓VX,VQ,seval,GL])
           ((refine ACall.pure (c2) ?_; try simp(maxSteps:=9^9)only[↓VX,VQ,seval]); try simp(maxSteps:=9^9)only[↓VX,VQ,seval,GL])
           ((refine ACall.pure (o2) ?_; try simp(maxSteps:=9^9)only[↓VX,VQ,seval]); try simp(maxSteps:=9^9)only[↓VX,VQ,seval,GL])
           ((refine ACall.pure (h2) ?_; try simp(maxSteps:=9^9)only[↓VX,VQ,seval]); try simp(maxSteps:=9^9)only[↓VX,VQ,seval,GL])
           repeat'(first|intro _|apply And.intro)
           all_goals try first|omega|(simp only[LL];omega)|exact nlC (by decide) _|exact nbC rfl
           all_goals (((refine ACall.pure (aw4) ?_; try simp(maxSteps:=9^9)only[↓VX,VQ,seval]); try simp(maxSteps:=9^9)only[↓VX,VQ,seval,GL]))
           all_goals (((refine ACall.pure (aw) ?_; try simp(maxSteps:=9^9)only[↓VX,VQ,seval]); try simp(maxSteps:=9^9)only[↓VX,VQ,seval,GL]))
           done)
theorem topLacked_c (b : RBook) (hs : hnamesFit b.harb) (x y : Nat) (hx : x < 256) (hy : y < 256) : PCall Tryz.prog 3 [bookA b,.agg [.int .u8 x,.int .u8 y]] (.bool true) := by
  by_cases e : (checkB b).2.2 = 0 ∧ 0 < b.answers.length ∧ 0 < b.words.length
  · exact topLacked_ok b hs x y hx hy e.1 e.2.1 e.2.2
  · exact topLacked_no b hs x y e
end Go.Proofs.YtikodjpbknneoaaGreat.Abs

namespace Go.Proofs.YtikodjpbknneoaaGreat
set_option linter.unusedSimpArgs false
open Go Go.RowKit Go.Proofs Abs
set_option maxRecDepth 100000

theorem topLacked_types : LawTypes Tryz.prog Tryz.f3 [30,31] 4 9 := by
 refine ⟨by rw [Tryz.params3],by kernel_rfl,Tryz.underlying4,laid_ok,fun t h => ?_⟩
 simp only [List.mem_cons,List.not_mem_nil,or_false] at h
 rcases h with rfl | rfl
 ·exact plain30
 ·exact plain31

theorem topLacked_all (xs : List AV) (h : GoodAll Tryz.prog [30,31] xs) : ∃ K : AV → Mem → Prop,ACall Tryz.prog 3 xs (fun _ => .none) K ∧ ∀ r m,K r m → r = .bool true := by
 match xs,h with
 | [a0,a1],⟨⟨l0,g0,h0⟩,⟨l1,g1,h1⟩,_⟩ =>
  obtain ⟨b,hb,e0⟩ := open_book g0
  obtain ⟨x,y,hx,hy,e1⟩ := open_b2 g1
  rw [h0,e0,h1,e1]
  exact ⟨_,topLacked_c b hb.names x y hx hy _,fun r m h => h.1⟩

theorem topLacked_lifted (os : Os) (started : os.Started) (H : Type) (enc : TypeId × Value → H) :
  ReturnsInHanded {} Tryz.checked os 3 .any (Rows.topLackedSpec.pre6 enc Tryz.prog Tryz.f3 Rows.topLackedRow.domain false) (Rows.topLackedSpec.post enc Tryz.prog Tryz.f3 false true false false) := by
 refine returnsInHanded_of_change_sized (C := Tryz.checked) own_ok started (by kernel_rfl) Tryz.func3
  (ChangeSpec.witness6 (enc := enc) (C := Tryz.checked) false ⟨#[],#[.agg #[.int .i64 0,.int .i64 0,.slice .none 0 0,.slice .none 0 0,.slice .none 0 0,.slice .none 0 0,.int .i64 0,.slice .none 0 0],.agg #[.int .u8 0,.int .u8 0]],[]⟩ 8 (by kernel_rfl) (by kernel_rfl) (by kernel_rfl) (by kernel_rfl)) ?_
 intro W base args ds gs before hval hW _ hz _
 refine law_contract topLacked_types rfl (fun ds hds => ?_) topLacked_all W base args ds gs before hval hW hz
 match ds,hds with
 | [d0,d1],_ => rfl

theorem topLacked_holds : Rows.TopLackedSaid :=
 OpenClaim.holds_of_wide 3 Tryz.f3 rfl rfl rfl rfl rfl rfl rfl ⟨rfl,rfl,rfl,rfl,rfl⟩ rfl rfl rfl rfl rfl (by kernel_rfl) Tryz.func3 (by kernel_rfl)
  (of_decide_eq_true (by kernel_rfl)) (by unfold Func.isWrapper; first | (rw [if_pos (by decide +kernel)]; kernel_rfl) | (rw [if_neg (by decide +kernel)]; exact ⟨rfl,rfl⟩))
  (fun os started H enc _ => topLacked_lifted os started H enc)
end Go.Proofs.YtikodjpbknneoaaGreat
