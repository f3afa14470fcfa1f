/- The statement ReplyOnce: for any book, answer and letter the law returns true. Conditions: none. -/
import Derived.Test.YtnfmmhmfbipkjaaGreatW13
import Derived.Test.YtnfmmhmfbipkjaaGreatW3
import Derived.Test.YtnfmmhmfbipkjaaGreatW14
namespace Go.Proofs.YtnfmmhmfbipkjaaGreat.Abs
set_option linter.unusedSimpArgs false
set_option maxHeartbeats 4000000
set_option maxRecDepth 100000
open Go Go.RowKit Go.Proofs

theorem natMod (a b : Nat) : ((a : Int) % (b : Int)) = ((a % b : Nat) : Int) := (Int.natCast_emod a b).symm
theorem natMod5 (a : Nat) : ((a : Int) % 5) = ((a % 5 : Nat) : Int) := (Int.natCast_emod a 5).symm

def mustTo (p : Int → Int × Int) (n : Nat) : Bool := (List.range n).any fun (j : Nat) => decide ((p j).1 = 1)
theorem mustTo_succ (p : Int → Int × Int) (n : Nat) : mustTo p (n + 1) = (mustTo p n || decide ((p n).1 = 1)) := by
 unfold mustTo; rw [List.range_succ, List.any_append]; simp
theorem mustTo_iff (p : Int → Int × Int) (n : Nat) : mustTo p n = true ↔ ∃ k : Nat, k < n ∧ (p k).1 = 1 := by
 unfold mustTo
 simp only [List.any_eq_true, List.mem_range, decide_eq_true_eq]

theorem replyWord_no (b : RBook) (hs : hnamesFit b.harb) (x y : Nat) (e : ¬ ((checkB b).2.2 = 0 ∧ 0 < b.answers.length)) : PCall Tryz.prog 11 [bookA b, .agg [.int .u8 x, .int .u8 y]] (.bool true) := by
 intro m
 have v1 := valid6_c b hs
 have d1 := decides_top b hs 0
 have aw := awake_c
 have hne : (decidesR b 0).2 ≠ 0 := decides_no (by omega)
 generalize decidesR b 0 = D at *
 generalize checkB b = C at *
 simp only [bookA, bookL, harbL, List.cons_append, List.nil_append, ints] at *
 (refine acall_intro (E := envC (modeAt [11] []) false []) (envCOk _ _ _) rfl Tryz.func11 rfl Tryz.call11 (by kernel_rfl) (by simp [Tryz.ntmps11]) ?_; simp only [Tryz.f11];  simp (maxSteps := 4000000) only [↓VX, VQ, seval, Int.reduceEq])
 ((refine ACall.pure (v1) ?_; try simp (maxSteps := 4000000) only [↓VX, VQ, seval]); try simp (maxSteps := 4000000) only [↓VX, VQ, seval, GL])
 repeat' (first | intro _ | apply And.intro)
 all_goals try first | omega | (simp only [LL]; omega) | exact nlC (by decide) _ | exact nbC rfl
 all_goals try (exfalso; omega)
 all_goals (((refine ACall.pure (d1) ?_; try simp (maxSteps := 4000000) only [↓VX, VQ, seval]); try simp (maxSteps := 4000000) only [↓VX, VQ, seval, GL]))
 all_goals repeat' (first | intro _ | apply And.intro)
 all_goals try (exfalso; simp_all; done)
 all_goals (((refine ACall.pure (aw) ?_; try simp (maxSteps := 4000000) only [↓VX, VQ, seval]); try simp (maxSteps := 4000000) only [↓VX, VQ, seval, GL]))

theorem replyWord_ok (b : RBook) (hs : hnamesFit b.harb) (x y : Nat) (hx : x < 256) (hy : y < 256) (e : (checkB b).2.2 = 0) (hn : 0 < b.answers.length) : PCall Tryz.prog 11 [bookA b, .agg [.int .u8 x, .int .u8 y]] (.bool true) := by
 intro m
 have hb := bok_check e
 have hw := hb.w
 have hnn := hb.n
 have hnl := hb.h.nl
 have v1 := valid6_c b hs
 rw [decide_eq_true e] at v1
 have hA : x % b.answers.length < b.answers.length := Nat.mod_lt x hn
 have hW : y % 5 < 5 := Nat.mod_lt y (by decide)
 have hmod := natMod x b.answers.length
 have m5 := natMod5 y
 generalize x % b.answers.length = a at *
 generalize y % 5 = w at *
 have law := word_law e hA hW
 have d1 := decides_top b hs a
 have r1 := rising_c (decidesR b a).1 5
 have h1 := has_c (decidesR b a).1 w
 have han := (hb.ans a hA).2.1
 have bi := bit_c (b.answers[a]!).words w (by omega) (by omega) (by omega)
 have nm := fun m => named06_c b hb a w hA hW m
 have be := fun k : Nat => belongs_top (namedR b a w) hs a k
 have aw := awake_c
 obtain ⟨⟨l1, l2⟩, l3, l4⟩ := law
 rw [l1] at d1
 rw [l2] at r1
 have en : bookA (namedR b a w) = .agg (harbL b.harb ++ [ints b.words, .int .i64 b.back, .slice 3 ((b.answers.set a (moreA (b.answers[a]!) w)).map ansA)]) := rfl
 rw [en] at nm
 simp only [en] at be
 clear en
 generalize decidesR b a = D at *
 generalize (b.answers.set a (moreA (b.answers[a]!) w)).map ansA = ZZ at *
 generalize hX : belongsR (namedR b a w) a = X at *
 simp only [bookA, bookL, harbL, List.cons_append, List.nil_append, ints] at *
 (refine acall_intro (E := envC (modeAt [11] []) false []) (envCOk _ _ _) rfl Tryz.func11 rfl Tryz.call11 (by kernel_rfl) (by simp [Tryz.ntmps11]) ?_; simp only [Tryz.f11];  simp (maxSteps := 4000000) only [↓VX, VQ, seval, Int.reduceEq])
 ((refine ACall.pure (v1) ?_; try simp (maxSteps := 4000000) only [↓VX, VQ, seval]); try simp (maxSteps := 4000000) only [↓VX, VQ, seval, GL])
 repeat' (first | intro _ | apply And.intro)
 all_goals try first | omega | (simp only [LL]; omega) | exact nlC (by decide) _ | exact nbC rfl
 (refine adraw (by first | exact envOk _ | exact envCOk _ _ _) mixed [⟨false, false, 0⟩, ⟨false, false, 0⟩, ⟨false, false, 0⟩, ⟨false, false, 0⟩, ⟨false, false, 0⟩, ⟨false, false, 0⟩, ⟨false, false, 0⟩, ⟨false, false, 0⟩, ⟨false, false, 0⟩, ⟨false, false, 0⟩, ⟨false, false, 0⟩, ⟨false, false, 0⟩, ⟨false, false, 0⟩] (by kernel_rfl) ?_; show vcOpsD _ _ _ (_ :: _) _ _)
 simp (maxSteps := 4000000) only [↓VX, VQ, seval, hmod, m5]
 repeat' (first | intro _ | apply And.intro)
 all_goals try first | omega | (simp only [LL]; omega) | exact nlC (by decide) _ | exact nbC rfl
 ((refine ACall.pure (d1) ?_; try simp (maxSteps := 4000000) only [↓VX, VQ, seval]); try simp (maxSteps := 4000000) only [↓VX, VQ, seval, GL])
 ((refine ACall.pure (r1) ?_; try simp (maxSteps := 4000000) only [↓VX, VQ, seval]); try simp (maxSteps := 4000000) only [↓VX, VQ, seval, GL])
 repeat' (first | intro _ | apply And.intro)
 all_goals try first | omega | (simp only [LL]; omega) | exact nlC (by decide) _ | exact nbC rfl
 ((refine ACall.pure (bi) ?_; try simp (maxSteps := 4000000) only [↓VX, VQ, seval]); try simp (maxSteps := 4000000) only [↓VX, VQ, seval, GL])
 repeat' (first | intro _ | apply And.intro)
 all_goals try first | omega | (simp only [LL]; omega) | exact nlC (by decide) _ | exact nbC rfl
 ·rename_i hbit
  rw [decide_eq_false (l3 hbit)] at h1
  ((refine ACall.pure (h1) ?_; try simp (maxSteps := 4000000) only [↓VX, VQ, seval]); try simp (maxSteps := 4000000) only [↓VX, VQ, seval, GL])
  ((refine ACall.pure (aw) ?_; try simp (maxSteps := 4000000) only [↓VX, VQ, seval]); try simp (maxSteps := 4000000) only [↓VX, VQ, seval, GL])
 ·rename_i hbit
  rw [Bool.not_eq_true] at hbit
  obtain ⟨_, l6, l7⟩ := l4 hbit
  clear l3 l4
  refine ACall.pure nm ?_
  simp (maxSteps := 4000000) only [↓VX, VQ, seval]
  refine ALoop.freeze 11 ?_
  simp (maxSteps := 4000000) only [↓VX, VQ, seval]
  have e7 : mustTo X b.harb.letters.length = decide ((w : Int) ∈ D.1) := by
   rw [Bool.eq_iff_iff, mustTo_iff, decide_eq_true_eq]; exact l7
  rw [← e7] at h1
  clear l7 e7
  refine aloop (envCOk _ _ _) (fun k : Nat => ⟨[(2, .v (.eptr [.int .i64 b.harb.ports, .int .i64 b.harb.lost, .slice 5 (b.harb.ships.map shipA), .slice 3 (b.harb.letters.map letA), .slice 4 (b.harb.reports.map repA), .slice 1 (b.words.map (AV.int .i64)), .int .i64 b.back, .slice 3 (b.answers.map ansA)])), (7, .v (.int .i64 a)), (8, .v (.int .i64 w)), (9, .v (.slice 1 (D.1.map (AV.int .i64)))), (11, .v (.eptr [.int .i64 b.harb.ports, .int .i64 b.harb.lost, .slice 5 (b.harb.ships.map shipA), .slice 3 (b.harb.letters.map letA), .slice 4 (b.harb.reports.map repA), .slice 1 (b.words.map (AV.int .i64)), .int .i64 b.back, .slice 3 ZZ])), (12, .v (.bool (mustTo X k))), (13, .v (.int .i64 k))], [], [], m⟩)
   (fun k => k ≤ b.harb.letters.length) (fun k => b.harb.letters.length - k) 0 (fun _ => rfl) (by simp) (by (simp only [FE, ↓FP, seval]); try simp [mustTo]) ?_
  intro k hk
  have bek := be k
  have l6k := l6 k
  have hsu := mustTo_succ X k
  simp (maxSteps := 4000000) only [↓VX, VQ, seval]
  repeat' (first | intro _ | apply And.intro)
  all_goals try first | omega | (simp only [LL]; omega) | exact nlC (by decide) _ | exact nbC rfl
  ·have hkl : k < b.harb.letters.length := by omega
   rw [l6k hkl] at bek
   ((refine ACall.pure (bek) ?_; try simp (maxSteps := 4000000) only [↓VX, VQ, seval]); try simp (maxSteps := 4000000) only [↓VX, VQ, seval, GL])
   repeat' (first | intro _ | apply And.intro)
   all_goals try first | omega | (simp only [LL]; omega) | exact nlC (by decide) _ | exact nbC rfl
   all_goals ((refine ⟨k + 1, by first | omega | (dsimp only; omega), by dsimp only; omega, ?_⟩; (simp only [FE, ↓FP, seval]); try simp [hsu, *]))
  ·have hkl : k = b.harb.letters.length := by omega
   subst hkl
   ((refine ACall.pure (h1) ?_; try simp (maxSteps := 4000000) only [↓VX, VQ, seval]); try simp (maxSteps := 4000000) only [↓VX, VQ, seval, GL])
   ((refine ACall.pure (aw) ?_; try simp (maxSteps := 4000000) only [↓VX, VQ, seval]); try simp (maxSteps := 4000000) only [↓VX, VQ, seval, GL])

theorem replyWord_c (b : RBook) (hs : hnamesFit b.harb) (x y : Nat) (hx : x < 256) (hy : y < 256) : PCall Tryz.prog 11 [bookA b, .agg [.int .u8 x, .int .u8 y]] (.bool true) := by
 by_cases e : (checkB b).2.2 = 0 ∧ 0 < b.answers.length
 ·exact replyWord_ok b hs x y hx hy e.1 e.2
 ·exact replyWord_no b hs x y e
end Go.Proofs.YtnfmmhmfbipkjaaGreat.Abs

namespace Go.Proofs.YtnfmmhmfbipkjaaGreat.Abs
set_option linter.unusedSimpArgs false
set_option maxHeartbeats 4000000
set_option maxRecDepth 100000
open Go Go.RowKit Go.Proofs

theorem replyOnce_no (b : RBook) (hs : hnamesFit b.harb) (x y : Nat) (e : ¬ ((checkB b).2.2 = 0 ∧ 0 < b.answers.length ∧ 0 < b.words.length)) : PCall Tryz.prog 9 [bookA b, .agg [.int .u8 x, .int .u8 y]] (.bool true) := by
 intro m
 have v1 := valid6_c b hs
 have d1 := belongs_top b hs 0 0
 have aw := awake_c
 have hne : (belongsR b 0 0).2 ≠ 0 := belongs_no (by
  by_cases q : (checkB b).2.2 = 0
  ·have := (bok_check q).w
   omega
  ·exact .inl q)
 generalize belongsR b 0 0 = D at *
 generalize checkB b = C at *
 simp only [bookA, bookL, harbL, List.cons_append, List.nil_append, ints] at *
 (refine acall_intro (E := envC (modeAt [] []) false []) (envCOk _ _ _) rfl Tryz.func9 rfl Tryz.call9 (by kernel_rfl) (by simp [Tryz.ntmps9]) ?_; simp only [Tryz.f9];  simp (maxSteps := 4000000) only [↓VX, VQ, seval, Int.reduceEq])
 ((refine ACall.pure (v1) ?_; try simp (maxSteps := 4000000) only [↓VX, VQ, seval]); try simp (maxSteps := 4000000) only [↓VX, VQ, seval, GL])
 repeat' (first | intro _ | apply And.intro)
 all_goals try first | omega | (simp only [LL]; omega) | exact nlC (by decide) _ | exact nbC rfl
 all_goals try (exfalso; omega)
 all_goals (((refine ACall.pure (d1) ?_; try simp (maxSteps := 4000000) only [↓VX, VQ, seval]); try simp (maxSteps := 4000000) only [↓VX, VQ, seval, GL]))
 all_goals repeat' (first | intro _ | apply And.intro)
 all_goals try (exfalso; simp_all; done)
 all_goals (((refine ACall.pure (aw) ?_; try simp (maxSteps := 4000000) only [↓VX, VQ, seval]); try simp (maxSteps := 4000000) only [↓VX, VQ, seval, GL]))

theorem replyOnce_ok (b : RBook) (hs : hnamesFit b.harb) (x y : Nat) (hx : x < 256) (hy : y < 256) (e : (checkB b).2.2 = 0) (hn : 0 < b.answers.length) (hl : 0 < b.words.length) : PCall Tryz.prog 9 [bookA b, .agg [.int .u8 x, .int .u8 y]] (.bool true) := by
 intro m
 have hb := bok_check e
 have hw := hb.w
 have hnn := hb.n
 have hnl := hb.h.nl
 have v1 := valid6_c b hs
 rw [decide_eq_true e] at v1
 have hA : x % b.answers.length < b.answers.length := Nat.mod_lt x hn
 have hK : y % b.words.length < b.words.length := Nat.mod_lt y hl
 have hmod := natMod x b.answers.length
 have hmod2 := natMod y b.words.length
 generalize x % b.answers.length = a at *
 generalize y % b.words.length = k at *
 have law := once_law e hA (show k < b.harb.letters.length by omega)
 have be := fun i j : Nat => belongs_top b hs i j
 have st := strays_top b hs
 have wa := waits_top b hs
 have h1 := has_c (straysR b).1 a
 have h2 := has_c (waitsR b).2.1 k
 have h3 := has_c (straysR b).2.1 a
 have h4 := has_c (waitsR b).1 k
 have aw := awake_c
 obtain ⟨⟨l1, l2, l3⟩, l4, l5, l6⟩ := law
 have be0 := be a k
 rw [l1] at be0
 rw [l2] at st
 rw [l3] at wa
 generalize belongsR b = X at *
 generalize straysR b = S at *
 generalize waitsR b = W at *
 simp only [bookA, bookL, harbL, List.cons_append, List.nil_append, ints] at *
 (refine acall_intro (E := envC (modeAt [] []) false []) (envCOk _ _ _) rfl Tryz.func9 rfl Tryz.call9 (by kernel_rfl) (by simp [Tryz.ntmps9]) ?_; simp only [Tryz.f9];  simp (maxSteps := 4000000) only [↓VX, VQ, seval, Int.reduceEq])
 ((refine ACall.pure (v1) ?_; try simp (maxSteps := 4000000) only [↓VX, VQ, seval]); try simp (maxSteps := 4000000) only [↓VX, VQ, seval, GL])
 repeat' (first | intro _ | apply And.intro)
 all_goals try first | omega | (simp only [LL]; omega) | exact nlC (by decide) _ | exact nbC rfl
 (refine adraw (by first | exact envOk _ | exact envCOk _ _ _) mixed [⟨false, false, 0⟩, ⟨false, false, 0⟩, ⟨false, false, 0⟩, ⟨false, false, 0⟩, ⟨false, false, 0⟩, ⟨false, false, 0⟩, ⟨false, false, 0⟩, ⟨false, false, 0⟩, ⟨false, false, 0⟩, ⟨false, false, 0⟩, ⟨false, false, 0⟩, ⟨false, false, 0⟩, ⟨false, false, 0⟩, ⟨false, false, 0⟩, ⟨false, false, 0⟩, ⟨false, false, 0⟩] (by kernel_rfl) ?_; show vcOpsD _ _ _ (_ :: _) _ _)
 simp (maxSteps := 4000000) only [↓VX, VQ, seval, hmod, hmod2]
 repeat' (first | intro _ | apply And.intro)
 all_goals try first | omega | (simp only [LL]; omega) | exact nlC (by decide) _ | exact nbC rfl
 by_cases c2 : (X a k).1 = 2
 ·rw [c2] at be0
  ((refine ACall.pure (be0) ?_; try simp (maxSteps := 4000000) only [↓VX, VQ, seval]); try simp (maxSteps := 4000000) only [↓VX, VQ, seval, GL])
  ((refine ACall.pure (st) ?_; try simp (maxSteps := 4000000) only [↓VX, VQ, seval]); try simp (maxSteps := 4000000) only [↓VX, VQ, seval, GL])
  ((refine ACall.pure (wa) ?_; try simp (maxSteps := 4000000) only [↓VX, VQ, seval]); try simp (maxSteps := 4000000) only [↓VX, VQ, seval, GL])
  ((refine ACall.pure (h1) ?_; try simp (maxSteps := 4000000) only [↓VX, VQ, seval]); try simp (maxSteps := 4000000) only [↓VX, VQ, seval, GL])
  repeat' (first | intro _ | apply And.intro)
  all_goals try first | omega | (simp only [LL]; omega) | exact nlC (by decide) _ | exact nbC rfl
  all_goals (((refine ACall.pure (h2) ?_; try simp (maxSteps := 4000000) only [↓VX, VQ, seval]); try simp (maxSteps := 4000000) only [↓VX, VQ, seval, GL]))
  all_goals repeat' (first | intro _ | apply And.intro)
  all_goals try (((refine ACall.pure (aw) ?_; try simp (maxSteps := 4000000) only [↓VX, VQ, seval]); try simp (maxSteps := 4000000) only [↓VX, VQ, seval, GL]))
 ·rw [decide_eq_false (fun q => c2 (l4 q))] at h1
  rw [decide_eq_false (fun q => c2 (l5 q))] at h2
  by_cases c1 : (X a k).1 = 1
  ·obtain ⟨l7, l8, l9, l10⟩ := l6 c1
   rw [c1] at be0
   rw [decide_eq_false l7] at h3
   rw [decide_eq_false l8] at h4
   clear l4 l5 l6 l7 l8 c2
   ((refine ACall.pure (be0) ?_; try simp (maxSteps := 4000000) only [↓VX, VQ, seval]); try simp (maxSteps := 4000000) only [↓VX, VQ, seval, GL])
   ((refine ACall.pure (st) ?_; try simp (maxSteps := 4000000) only [↓VX, VQ, seval]); try simp (maxSteps := 4000000) only [↓VX, VQ, seval, GL])
   ((refine ACall.pure (wa) ?_; try simp (maxSteps := 4000000) only [↓VX, VQ, seval]); try simp (maxSteps := 4000000) only [↓VX, VQ, seval, GL])
   ((refine ACall.pure (h1) ?_; try simp (maxSteps := 4000000) only [↓VX, VQ, seval]); try simp (maxSteps := 4000000) only [↓VX, VQ, seval, GL])
   ((refine ACall.pure (h2) ?_; try simp (maxSteps := 4000000) only [↓VX, VQ, seval]); try simp (maxSteps := 4000000) only [↓VX, VQ, seval, GL])
   ((refine ACall.pure (h3) ?_; try simp (maxSteps := 4000000) only [↓VX, VQ, seval]); try simp (maxSteps := 4000000) only [↓VX, VQ, seval, GL])
   ((refine ACall.pure (h4) ?_; try simp (maxSteps := 4000000) only [↓VX, VQ, seval]); try simp (maxSteps := 4000000) only [↓VX, VQ, seval, GL])
   refine aloop (envCOk _ _ _) (fun i : Nat => ⟨[(2, .v (.eptr [.int .i64 b.harb.ports, .int .i64 b.harb.lost, .slice 5 (b.harb.ships.map shipA), .slice 3 (b.harb.letters.map letA), .slice 4 (b.harb.reports.map repA), .slice 1 (b.words.map (AV.int .i64)), .int .i64 b.back, .slice 3 (b.answers.map ansA)])), (7, .v (.int .i64 a)), (8, .v (.int .i64 k)), (17, .v (.int .i64 i))], [], [], m⟩)
    (fun i => i ≤ b.answers.length) (fun i => b.answers.length - i) 0 (fun _ => rfl) (by simp) (by (simp only [FE, ↓FP, seval]); try simp) ?_
   intro i hi
   have bei := be i k
   have l9i := l9 i
   simp (maxSteps := 4000000) only [↓VX, VQ, seval]
   repeat' (first | intro _ | apply And.intro)
   all_goals try first | omega | (simp only [LL]; omega) | exact nlC (by decide) _ | exact nbC rfl
   ·obtain ⟨q1, q2⟩ := l9i (by omega)
    rw [q1] at bei
    ((refine ACall.pure (bei) ?_; try simp (maxSteps := 4000000) only [↓VX, VQ, seval]); try simp (maxSteps := 4000000) only [↓VX, VQ, seval, GL])
    repeat' (first | intro _ | apply And.intro)
    all_goals try first | omega | (simp only [LL]; omega) | exact nlC (by decide) _ | exact nbC rfl
    all_goals try ((refine ⟨i + 1, by first | omega | (dsimp only; omega), by dsimp only; omega, ?_⟩; (simp only [FE, ↓FP, seval]); try simp []); done)
   ·refine aloop (envCOk _ _ _) (fun i : Nat => ⟨[(2, .v (.eptr [.int .i64 b.harb.ports, .int .i64 b.harb.lost, .slice 5 (b.harb.ships.map shipA), .slice 3 (b.harb.letters.map letA), .slice 4 (b.harb.reports.map repA), .slice 1 (b.words.map (AV.int .i64)), .int .i64 b.back, .slice 3 (b.answers.map ansA)])), (7, .v (.int .i64 a)), (8, .v (.int .i64 k)), (20, .v (.int .i64 i))], [], [], m⟩)
     (fun i => i ≤ b.words.length) (fun i => b.words.length - i) 0 (fun _ => rfl) (by simp) (by (simp only [FE, ↓FP, seval]); try simp) ?_
    intro i hi
    have bei := be a i
    have l9i := l10 i
    simp (maxSteps := 4000000) only [↓VX, VQ, seval]
    repeat' (first | intro _ | apply And.intro)
    all_goals try first | omega | (simp only [LL]; omega) | exact nlC (by decide) _ | exact nbC rfl
    ·obtain ⟨q1, q2⟩ := l9i (by omega)
     rw [q1] at bei
     ((refine ACall.pure (bei) ?_; try simp (maxSteps := 4000000) only [↓VX, VQ, seval]); try simp (maxSteps := 4000000) only [↓VX, VQ, seval, GL])
     repeat' (first | intro _ | apply And.intro)
     all_goals try first | omega | (simp only [LL]; omega) | exact nlC (by decide) _ | exact nbC rfl
     all_goals try ((refine ⟨i + 1, by first | omega | (dsimp only; omega), by dsimp only; omega, ?_⟩; (simp only [FE, ↓FP, seval]); try simp []); done)
    ·((refine ACall.pure (aw) ?_; try simp (maxSteps := 4000000) only [↓VX, VQ, seval]); try simp (maxSteps := 4000000) only [↓VX, VQ, seval, GL])
  ·((refine ACall.pure (be0) ?_; try simp (maxSteps := 4000000) only [↓VX, VQ, seval]); try simp (maxSteps := 4000000) only [↓VX, VQ, seval, GL])
   ((refine ACall.pure (st) ?_; try simp (maxSteps := 4000000) only [↓VX, VQ, seval]); try simp (maxSteps := 4000000) only [↓VX, VQ, seval, GL])
   ((refine ACall.pure (wa) ?_; try simp (maxSteps := 4000000) only [↓VX, VQ, seval]); try simp (maxSteps := 4000000) only [↓VX, VQ, seval, GL])
   ((refine ACall.pure (h1) ?_; try simp (maxSteps := 4000000) only [↓VX, VQ, seval]); try simp (maxSteps := 4000000) only [↓VX, VQ, seval, GL])
   ((refine ACall.pure (h2) ?_; try simp (maxSteps := 4000000) only [↓VX, VQ, seval]); try simp (maxSteps := 4000000) only [↓VX, VQ, seval, GL])
   repeat' (first | intro _ | apply And.intro)
   all_goals try first | omega | (simp only [LL]; omega) | exact nlC (by decide) _ | exact nbC rfl
   all_goals try (exfalso; omega)
   all_goals (((refine ACall.pure (aw) ?_; try simp (maxSteps := 4000000) only [↓VX, VQ, seval]); try simp (maxSteps := 4000000) only [↓VX, VQ, seval, GL]))

theorem replyOnce_c (b : RBook) (hs : hnamesFit b.harb) (x y : Nat) (hx : x < 256) (hy : y < 256) : PCall Tryz.prog 9 [bookA b, .agg [.int .u8 x, .int .u8 y]] (.bool true) := by
 by_cases e : (checkB b).2.2 = 0 ∧ 0 < b.answers.length ∧ 0 < b.words.length
 ·exact replyOnce_ok b hs x y hx hy e.1 e.2.1 e.2.2
 ·exact replyOnce_no b hs x y e
end Go.Proofs.YtnfmmhmfbipkjaaGreat.Abs

namespace Go.Proofs.YtnfmmhmfbipkjaaGreat
set_option linter.unusedSimpArgs false
open Go Go.RowKit Go.Proofs Abs
set_option maxRecDepth 100000

theorem replyOnce_types : LawTypes Tryz.prog Tryz.f9 [30, 78] 4 9 := by
 refine ⟨by rw [Tryz.params9], by kernel_rfl, Tryz.underlying4, laid_ok, fun t h => ?_⟩
 simp only [List.mem_cons, List.not_mem_nil, or_false] at h
 rcases h with rfl | rfl
 ·exact plain30
 ·exact plain78

theorem replyOnce_all (xs : List AV) (h : GoodAll Tryz.prog [30, 78] xs) : ∃ K : AV → Mem → Prop, ACall Tryz.prog 9 xs (fun _ => .none) K ∧ ∀ r m, K r m → r = .bool true := by
 match xs, h with
 | [a0, a1], ⟨⟨l0, g0, h0⟩, ⟨l1, g1, h1⟩, _⟩ =>
  obtain ⟨b, hb, e0⟩ := open_book g0
  obtain ⟨x, y, hx, hy, e1⟩ := open_b2 g1
  rw [h0, e0, h1, e1]
  exact ⟨_, replyOnce_c b hb.names x y hx hy _, fun r m h => h.1⟩

theorem replyOnce_lifted (os : Os) (started : os.Started) (H : Type) (enc : TypeId × Value → H) :
  ReturnsInHanded {} Tryz.checked os 9 .any (Rows.replyOnceSpec.pre6 enc Tryz.prog Tryz.f9 Rows.replyOnceRow.domain false) (Rows.replyOnceSpec.post enc Tryz.prog Tryz.f9 false true false false) := by
 refine returnsInHanded_of_change_sized (C := Tryz.checked) own_ok started (by kernel_rfl) Tryz.func9
  (ChangeSpec.witness6 (enc := enc) (C := Tryz.checked) false ⟨#[], #[.agg #[.int .i64 0, .int .i64 0, .slice .none 0 0, .slice .none 0 0, .slice .none 0 0, .slice .none 0 0, .int .i64 0, .slice .none 0 0], .agg #[.int .u8 0, .int .u8 0]], []⟩ 8 (by kernel_rfl) (by kernel_rfl) (by kernel_rfl) (by kernel_rfl)) ?_
 intro W base args ds gs before hval hW _ hz _
 refine law_contract replyOnce_types rfl (fun ds hds => ?_) replyOnce_all W base args ds gs before hval hW hz
 match ds, hds with
 | [d0, d1], _ => rfl

theorem replyOnce_holds : Rows.ReplyOnceSaid :=
 OpenClaim.holds_of_wide 9 Tryz.f9 rfl rfl rfl rfl rfl rfl rfl ⟨rfl, rfl, rfl, rfl, rfl⟩ rfl rfl rfl rfl rfl (by kernel_rfl) Tryz.func9 (by kernel_rfl)
  (of_decide_eq_true (by kernel_rfl)) (by unfold Func.isWrapper; first | (rw [if_pos (by decide +kernel)]; kernel_rfl) | (rw [if_neg (by decide +kernel)]; exact ⟨rfl, rfl⟩))
  (fun os started H enc _ => replyOnce_lifted os started H enc)
end Go.Proofs.YtnfmmhmfbipkjaaGreat
