/- Lemmas for the statements of this seat (W10): they hold without conditions beyond those that each one states. -/
import Derived.Test.YtnfmmhmfbipkjaaGreatW9
import Derived.Test.YtnfmmhmfbipkjaaGreatW2
/- Contracts: the reference of answers: sorted. -/
namespace Go.Proofs.YtnfmmhmfbipkjaaGreat.Abs
set_option linter.unusedSimpArgs false
set_option maxHeartbeats 4000000
set_option maxRecDepth 100000
open Go Go.RowKit Go.Proofs
def idxF (p : Nat → Bool) (n : Nat) : List Int := ((List.range n).filter p).map fun (k : Nat) => (k : Int)
theorem idxF_succ (p : Nat → Bool) (n : Nat) : idxF p (n + 1) = if p n = true then idxF p n ++ [(n : Int)] else idxF p n := by
 unfold idxF
 rw [List.range_succ, List.filter_append, List.map_append, List.filter_cons]
 by_cases q : p n = true
 ·rw [if_pos q, if_pos q]; rfl
 ·rw [if_neg q, if_neg q]; exact List.append_nil _
theorem idxF_length (p : Nat → Bool) (n : Nat) : (idxF p n).length ≤ n := by
 unfold idxF; rw [List.length_map]; exact Nat.le_trans (List.length_filter_le _ _) (by simp)
def allI (l : List Int) (all : Int) (n : Nat) : List Int := idxF (fun i => decide (l[i]! = all)) n
def anyI (l : List Int) (n : Nat) : List Int := idxF (fun i => decide (0 < l[i]!)) n
theorem sorted06_c (l : List Int) (all : Int) (hl : l.length ≤ 1000) : PCall Tryz.prog 71 [ints l, .int .i64 all] (.tuple [ints (allI l all l.length), ints (anyI l l.length)]) := by
 intro m
 have hp : ∀ i, allI l all (i + 1) = if l[i]! = all then allI l all i ++ [(i : Int)] else allI l all i := fun i => by
  have := idxF_succ (fun i => decide (l[i]! = all)) i
  simp only [decide_eq_true_eq] at this
  exact this
 have hq : ∀ i, anyI l (i + 1) = if 0 < l[i]! then anyI l i ++ [(i : Int)] else anyI l i := fun i => by
  have := idxF_succ (fun i => decide (0 < l[i]!)) i
  simp only [decide_eq_true_eq] at this
  exact this
 have hpl : ∀ i, (allI l all i).length ≤ i := fun i => idxF_length _ i
 have hql : ∀ i, (anyI l i).length ≤ i := fun i => idxF_length _ i
 have hp0 : allI l all 0 = [] := rfl
 have hq0 : anyI l 0 = [] := rfl
 generalize allI l all = P at *
 generalize anyI l = Q at *
 simp only [ints] at *
 (refine acall_intro (E := envC (modeAt [] []) false []) (envCOk _ _ _) rfl Tryz.func71 rfl Tryz.call71 (by kernel_rfl) (by simp [Tryz.ntmps71]) ?_; simp only [Tryz.f71];  simp (maxSteps := 4000000) only [↓VX, VQ, seval, Int.reduceEq])
 refine aloop (envCOk _ _ _) (fun i : Nat => ⟨[(0, .v (.slice 1 (l.map (AV.int .i64)))), (1, .v (.int .i64 all)), (6, .v (.slice 1 ((P i).map (AV.int .i64)))), (7, .v (.slice 1 ((Q i).map (AV.int .i64)))), (8, .v (.int .i64 i))], [6, 7], [], m⟩)
  (fun i => i ≤ l.length) (fun i => l.length - i) 0 (fun _ => rfl) (by omega) (by (simp only [FE, ↓FP, seval]); try simp [hp0, hq0]) ?_
 intro i hi
 have hp1 := hp i
 have hq1 := hq i
 have hpl1 := hpl i
 have hql1 := hql i
 simp (maxSteps := 4000000) only [↓VX, VQ, seval, ↓ixZ]
 repeat' (first | intro _ | apply And.intro)
 all_goals try first | omega | (simp only [LL]; omega) | exact nlC (by decide) _ | exact nbC rfl
 ·rw [if_pos (by assumption)] at hp1 hq1
  (refine ⟨i + 1, by first | omega | (dsimp only; omega), by dsimp only; omega, ?_⟩; (simp only [FE, ↓FP, seval]); try simp [hp1, hq1])
 ·rw [if_pos (by assumption)] at hp1
  rw [if_neg (by assumption)] at hq1
  (refine ⟨i + 1, by first | omega | (dsimp only; omega), by dsimp only; omega, ?_⟩; (simp only [FE, ↓FP, seval]); try simp [hp1, hq1])
 ·rw [if_neg (by assumption)] at hp1
  rw [if_pos (by assumption)] at hq1
  (refine ⟨i + 1, by first | omega | (dsimp only; omega), by dsimp only; omega, ?_⟩; (simp only [FE, ↓FP, seval]); try simp [hp1, hq1])
 ·rw [if_neg (by assumption)] at hp1 hq1
  (refine ⟨i + 1, by first | omega | (dsimp only; omega), by dsimp only; omega, ?_⟩; (simp only [FE, ↓FP, seval]); try simp [hp1, hq1])
 ·rw [show l.length = i by omega]
def cntL (f : Nat → Nat → Nat) (n i a : Nat) : List Int := (List.range n).map fun k => ((f k (if k < a then i + 1 else i) : Nat) : Int)
theorem cntL_length (f : Nat → Nat → Nat) (n i a : Nat) : (cntL f n i a).length = n := by unfold cntL; simp
theorem cntL_get {f : Nat → Nat → Nat} {n i a : Nat} (h : a < n) : (cntL f n i a)[a]! = ((f a i : Nat) : Int) := by
 unfold cntL
 rw [getD_any (by simpa using h), List.getElem_map, List.getElem_range, if_neg (by omega)]
theorem cntL_end (f : Nat → Nat → Nat) (n i : Nat) : cntL f n i n = cntL f n (i + 1) 0 := by
 unfold cntL
 refine List.map_congr_left fun k hk => ?_
 rw [if_pos (List.mem_range.1 hk), if_neg (by omega)]
theorem cntL_set {f : Nat → Nat → Nat} {n i a : Nat} (_h : a < n) : cntL f n i (a + 1) = (cntL f n i a).set a ((f a (i + 1) : Nat) : Int) := by
 refine List.ext_getElem (by simp [cntL_length]) fun k h1 h2 => ?_
 simp only [cntL, List.getElem_set, List.getElem_map, List.getElem_range]
 by_cases e : a = k
 ·subst e; rw [if_pos rfl, if_pos (by omega)]
 ·rw [if_neg e]
  by_cases e2 : k < a
  ·rw [if_pos e2, if_pos (by omega)]
  ·rw [if_neg e2, if_neg (by omega)]
theorem cntL_same {f : Nat → Nat → Nat} {n i a : Nat} (h : a < n) (e : f a (i + 1) = f a i) : cntL f n i (a + 1) = cntL f n i a := by
 unfold cntL
 refine List.map_congr_left fun k hk => ?_
 by_cases q : k = a
 ·subst q; rw [if_pos (by omega), if_neg (by omega), e]
 ·by_cases e2 : k < a
  ·rw [if_pos e2, if_pos (by omega)]
  ·rw [if_neg e2, if_neg (by omega)]
theorem overlay_set (l : List Int) (a : Nat) (x : Int) (h : a < l.length) : overlay (l.map (AV.int .i64)) a [.int .i64 x] = (l.set a x).map (AV.int .i64) := by
 unfold overlay
 rw [List.map_set, List.set_eq_take_append_cons_drop, if_pos (by simpa using h)]
 simp
theorem flat_ints (l : List Int) : ((l.map (AV.int .i64)).map AV.cells).flatten = l.map (AV.int .i64) := by
 induction l with
 | nil => rfl
 | cons x l ih => simp only [List.map_cons, List.flatten_cons, ih]; rfl
theorem dropInts {l : List Int} {a : Nat} (h : a < l.length) : ∃ r, (l.map (AV.int .i64)).drop a = .int .i64 l[a]! :: r := by
 refine ⟨(l.drop (a + 1)).map (AV.int .i64), ?_⟩
 rw [← List.map_drop, List.drop_eq_getElem_cons h, getD_any h]
 rfl
theorem updUndo {m : Mem} {b : Nat} (e : m b = none) (x : Option Box) : upd (upd m b x) b none = m := by
 funext k
 unfold upd
 by_cases q : k = b
 ·rw [if_pos q, q, e]
 ·rw [if_neg q, if_neg q]
theorem updTwice (m : Mem) (b : Nat) (x y : Option Box) : upd (upd m b x) b y = upd m b y := by
 funext k
 unfold upd
 by_cases q : k = b
 ·rw [if_pos q, if_pos q]
 ·rw [if_neg q, if_neg q, if_neg q]
def straysR (b : RBook) : List Int × List Int × Int := if (checkB b).2.2 = 0 then
  (allI (cntL (fun a n => oftB (fairR b) a (-1) n) b.answers.length (fairR b).length 0) (fairR b).length b.answers.length,
   anyI (cntL (fun a n => oftB (fairR b) a (-1) n) b.answers.length (fairR b).length 0) b.answers.length, 0) else ([], [], (checkB b).2.2)
theorem refstrays06_c (b : RBook) (hs : hnamesFit b.harb) : PCall Tryz.prog 26 [bookA b] (.tuple [ints (straysR b).1, ints (straysR b).2.1, .int .i64 (straysR b).2.2]) := by
 intro m
 refine ACall.forget ?_
 have h1 := refcheckB_c b hs
 have e0 : straysR b = if (checkB b).2.2 = 0 then
  (allI (cntL (fun a n => oftB (fairR b) a (-1) n) b.answers.length (fairR b).length 0) (fairR b).length b.answers.length,
   anyI (cntL (fun a n => oftB (fairR b) a (-1) n) b.answers.length (fairR b).length 0) b.answers.length, 0) else ([], [], (checkB b).2.2) := rfl
 by_cases q : (checkB b).2.2 = 0
 ·have hb := bok_check q
  have hna := hb.n
  have hf := fair06_c b hb
  have hfl := fairR_length hb
  have hfw := fun (i : Nat) (q : i < (fairR b).length) => fair_way q
  have hos := fun a => oftB_succ (fairR b) a (-1)
  have hol := fun a => oftB_le (fairR b) a (-1)
  have hso := sorted06_c (cntL (fun a n => oftB (fairR b) a (-1) n) b.answers.length (fairR b).length 0) (fairR b).length (by rw [cntL_length]; omega)
  rw [cntL_length] at hso
  have hcl := cntL_length (fun a n => oftB (fairR b) a (-1) n) b.answers.length
  have hcg := fun i a => cntL_get (f := fun a n => oftB (fairR b) a (-1) n) (n := b.answers.length) (i := i) (a := a)
  have hce := cntL_end (fun a n => oftB (fairR b) a (-1) n) b.answers.length
  have hcs := fun i a => cntL_set (f := fun a n => oftB (fairR b) a (-1) n) (n := b.answers.length) (i := i) (a := a)
  have hcq := fun i a => cntL_same (f := fun a n => oftB (fairR b) a (-1) n) (n := b.answers.length) (i := i) (a := a)
  have hc0 : cntL (fun a n => oftB (fairR b) a (-1) n) b.answers.length 0 0 = List.replicate b.answers.length 0 := by
   unfold cntL
   refine List.ext_getElem (by simp) fun k h1 h2 => ?_
   simp [oftB]
  rw [if_pos q] at e0
  rw [e0]
  clear e0
  generalize checkB b = C at *
  generalize fairR b = F at *
  generalize hO : (fun a n => oftB F a (-1) n) = O at *
  have hO2 : ∀ a n, oftB F a (-1) n = O a n := fun a n => by rw [← hO]
  simp only [hO2] at *
  generalize hL : cntL O b.answers.length = L at *
  simp only [bookA, bookL, harbA, harbL, ints, List.cons_append, List.nil_append] at *
  (refine acall_intro (E := envC (modeAt [] [28]) false [14]) (envCOk _ _ _) rfl Tryz.func26 rfl Tryz.call26 (by kernel_rfl) (by simp [Tryz.ntmps26]) ?_; simp only [Tryz.f26];  simp (maxSteps := 4000000) only [↓VX, VQ, seval, Int.reduceEq])
  ((refine ACall.pure (h1) ?_; try simp (maxSteps := 4000000) only [↓VX, VQ, seval]); try simp (maxSteps := 4000000) only [↓VX, VQ, seval, GL])
  repeat' (first | intro _ | apply And.intro)
  all_goals try first | omega | (simp only [LL]; omega) | exact nlC (by decide) _ | exact nbC rfl
  ((refine ACall.pure (hf) ?_; try simp (maxSteps := 4000000) only [↓VX, VQ, seval]); try simp (maxSteps := 4000000) only [↓VX, VQ, seval, GL])
  repeat' (first | intro _ | apply And.intro)
  all_goals try first | omega | (simp only [LL]; omega) | exact nlC (by decide) _ | exact nbC rfl
  rename_i bk hbk
  refine aloop (envCOk _ _ _) (fun i : Nat => ⟨[(8, .v (.slice 3 (F.map fairA))), (9, .v (.mslice bk 0 b.answers.length b.answers.length)), (10, .v (.int .i64 i))], [], [], upd m bk (some (.cells ((L i 0).map (AV.int .i64))))⟩)
   (fun i => i ≤ F.length) (fun i => F.length - i) 0 (fun _ => rfl) (by omega) (by (simp only [FE, ↓FP, seval]); try simp [hc0]) ?_
  intro i hi
  have hfw1 := hfw i
  have hcl1 := hcl i
  have hcg1 := hcg i
  have hce1 := hce i
  have hcs1 := hcs i
  have hcq1 := hcq i
  simp (maxSteps := 4000000) only [↓VX, VQ, seval, ↓ixFair]
  repeat' (first | intro _ | apply And.intro)
  all_goals try first | omega | (simp only [LL]; omega) | exact nlC (by decide) _ | exact nbC rfl
  ·refine aloop (envCOk _ _ _) (fun a : Nat => ⟨[(8, .v (.slice 3 (F.map fairA))), (9, .v (.mslice bk 0 b.answers.length b.answers.length)), (10, .v (.int .i64 i)), (11, .v (.int .i64 a))], [], [], upd m bk (some (.cells ((L i a).map (AV.int .i64))))⟩)
    (fun a => a ≤ b.answers.length) (fun a => b.answers.length - a) 0 (fun _ => rfl) (by omega) (by (simp only [FE, ↓FP, seval]); try simp) ?_
   intro a ha
   have hos1 := hos a i
   have hol1 := hol a i
   have hcl2 := hcl1 a
   have hcg2 := hcg1 a
   have hcs2 := hcs1 a
   have hcq2 := hcq1 a
   by_cases hal : a < b.answers.length
   ·obtain ⟨r, hdr⟩ := dropInts (l := L i a) (a := a) (by omega)
    rw [hcg2 hal] at hdr
    simp (maxSteps := 4000000) only [↓VX, VQ, seval, ↓ixFair, ↓ixZ, hdr]
    repeat' (first | intro _ | apply And.intro)
    all_goals try first | omega | (simp only [LL]; omega) | exact nlC (by decide) _ | exact nbC rfl
    ·rw [if_pos (by assumption)] at hos1
     have hst := hcs2 hal
     rw [hos1] at hst
     refine ⟨a + 1, by dsimp only; omega, by dsimp only; omega, ?_⟩
     have hov := overlay_set (L i a) a ((O a i : Nat) + 1 : Int) (by omega)
     unfold overlay at hov
     simp only [List.length_cons, List.length_nil, Nat.zero_add] at hov
     (simp only [FE, ↓FP, seval])
     refine ⟨by push_cast; rfl, ?_⟩
     rw [updTwice, hov, hst]
     push_cast
     rfl
    ·rw [if_neg (by assumption)] at hos1
     have hst := hcq2 hal hos1
     (refine ⟨a + 1, by first | omega | (dsimp only; omega), by dsimp only; omega, ?_⟩; (simp only [FE, ↓FP, seval]); try simp [hst])
   ·simp (maxSteps := 4000000) only [↓VX, VQ, seval, ↓ixFair, ↓ixZ]
    repeat' (first | intro _ | apply And.intro)
    all_goals try first | omega | (simp only [LL]; omega) | exact nlC (by decide) _ | exact nbC rfl
    have hae : a = b.answers.length := by omega
    subst hae
    (refine ⟨i + 1, by first | omega | (dsimp only; omega), by dsimp only; omega, ?_⟩; (simp only [FE, ↓FP, seval]); try simp [hce1])
  ·have hie : F.length = i := by omega
   refine acut_meltB (envCOk _ _ _) ⟨[(8, .v (.slice 3 (F.map fairA))), (9, .v (.slice 1 ((L i 0).map (AV.int .i64))))], [], [], m⟩ (fun (_ : Unit) => ⟨[(12, .v (.slice 1 ((allI (L F.length 0) F.length b.answers.length).map (AV.int .i64)))), (13, .v (.slice 1 ((anyI (L F.length 0) b.answers.length).map (AV.int .i64))))], [], [], m⟩)
    (fun _ => True) bk 1 ((L i 0).map (AV.int .i64)) [] rfl (fun _ => rfl) ?_ ?_ ?_ ?_ ?_
   ·rw [flat_ints, List.append_nil]; exact upd_same _ _ _
   ·intro e he
    obtain ⟨q, _, rfl⟩ := List.mem_map.1 he
    exact ⟨rfl, rfl⟩
   ·simp only [Fits, fitsV, fitsO, fitsL, St.melt, ↓upd, ↓lookV, ↓lookO, ↓lookL, Nat.reduceEqDiff, ↓reduceIte, ints, and_true, true_and, Option.some.injEq, meltV, meltA, Option.map_some, List.map_cons, List.map_nil]
    exact ⟨by rw [if_pos ⟨by rw [List.length_map, hcl1 0], Nat.le_refl _, by unfold maxLen; omega⟩], updUndo hbk _⟩
   ·show vcOps _ _ (_ :: _) _ _
    simp (maxSteps := 4000000) only [↓VX, VQ, seval]
    intro _
    rw [← hie]
    ((refine ACall.pure (hso) ?_; try simp (maxSteps := 4000000) only [↓VX, VQ, seval]); try simp (maxSteps := 4000000) only [↓VX, VQ, seval, GL])
    exact ⟨(), by (simp only [FE, ↓FP, seval])⟩
   ·intro _ _
    simp (maxSteps := 4000000) only [↓VX, VQ, seval]
    all_goals try first | omega | (simp only [LL]; omega) | exact nlC (by decide) _ | exact nbC rfl
    exact ⟨m, fun _ _ h => h, rfl⟩
 ·rw [if_neg q] at e0
  rw [e0]
  generalize checkB b = C at *
  simp only [bookA, bookL, harbA, harbL, ints, List.cons_append, List.nil_append, List.map_nil] at *
  (refine acall_intro (E := envC (modeAt [] [28]) false [14]) (envCOk _ _ _) rfl Tryz.func26 rfl Tryz.call26 (by kernel_rfl) (by simp [Tryz.ntmps26]) ?_; simp only [Tryz.f26];  simp (maxSteps := 4000000) only [↓VX, VQ, seval, Int.reduceEq])
  ((refine ACall.pure (h1) ?_; try simp (maxSteps := 4000000) only [↓VX, VQ, seval]); try simp (maxSteps := 4000000) only [↓VX, VQ, seval, GL])
  repeat' (first | intro _ | apply And.intro)
  all_goals try first | omega | (simp only [LL]; omega) | exact nlC (by decide) _ | exact nbC rfl
  exact ⟨m, fun _ _ h => h, rfl⟩
def oftW (F : List (RTru × List Int)) (k : Nat) (n : Nat) : Nat := ((List.range n).filter fun i => !decide ((k : Int) ∈ (F[i]!).2)).length
theorem oftW_succ (F : List (RTru × List Int)) (k : Nat) (n : Nat) : oftW F k (n + 1) = if (k : Int) ∈ (F[n]!).2 then oftW F k n else oftW F k n + 1 := by
 unfold oftW
 rw [List.range_succ, List.filter_append, List.length_append, List.filter_cons]
 by_cases q : (k : Int) ∈ (F[n]!).2
 ·rw [if_pos q, if_neg (by simpa using q)]; rfl
 ·rw [if_neg q, if_pos (by simpa using q)]; rfl
theorem oftW_le (F : List (RTru × List Int)) (k : Nat) (n : Nat) : oftW F k n ≤ n := by
 unfold oftW; exact Nat.le_trans (List.length_filter_le _ _) (by simp)
def waitsR (b : RBook) : List Int × List Int × Int := if (checkB b).2.2 = 0 then
  (anyI (cntL (fun a n => oftW (fairR b) a n) b.harb.letters.length (fairR b).length 0) b.harb.letters.length,
   allI (cntL (fun a n => oftW (fairR b) a n) b.harb.letters.length (fairR b).length 0) (fairR b).length b.harb.letters.length, 0) else ([], [], (checkB b).2.2)
theorem refwaits06_c (b : RBook) (hs : hnamesFit b.harb) : PCall Tryz.prog 28 [bookA b] (.tuple [ints (waitsR b).1, ints (waitsR b).2.1, .int .i64 (waitsR b).2.2]) := by
 intro m
 refine ACall.forget ?_
 have h1 := refcheckB_c b hs
 have e0 : waitsR b = if (checkB b).2.2 = 0 then
  (anyI (cntL (fun a n => oftW (fairR b) a n) b.harb.letters.length (fairR b).length 0) b.harb.letters.length,
   allI (cntL (fun a n => oftW (fairR b) a n) b.harb.letters.length (fairR b).length 0) (fairR b).length b.harb.letters.length, 0) else ([], [], (checkB b).2.2) := rfl
 by_cases q : (checkB b).2.2 = 0
 ·have hb := bok_check q
  have hnl := hb.h.nl
  have hf := fair06_c b hb
  have hfl := fairR_length hb
  have hos := fun a => oftW_succ (fairR b) a
  have hol := fun a => oftW_le (fairR b) a
  have hso := sorted06_c (cntL (fun a n => oftW (fairR b) a n) b.harb.letters.length (fairR b).length 0) (fairR b).length (by rw [cntL_length]; omega)
  rw [cntL_length] at hso
  have hcl := cntL_length (fun a n => oftW (fairR b) a n) b.harb.letters.length
  have hcg := fun i a => cntL_get (f := fun a n => oftW (fairR b) a n) (n := b.harb.letters.length) (i := i) (a := a)
  have hce := cntL_end (fun a n => oftW (fairR b) a n) b.harb.letters.length
  have hcs := fun i a => cntL_set (f := fun a n => oftW (fairR b) a n) (n := b.harb.letters.length) (i := i) (a := a)
  have hcq := fun i a => cntL_same (f := fun a n => oftW (fairR b) a n) (n := b.harb.letters.length) (i := i) (a := a)
  have hc0 : cntL (fun a n => oftW (fairR b) a n) b.harb.letters.length 0 0 = List.replicate b.harb.letters.length 0 := by
   unfold cntL
   refine List.ext_getElem (by simp) fun k h1 h2 => ?_
   simp [oftW]
  rw [if_pos q] at e0
  rw [e0]
  clear e0
  generalize checkB b = C at *
  generalize fairR b = F at *
  generalize hO : (fun a n => oftW F a n) = O at *
  have hO2 : ∀ a n, oftW F a n = O a n := fun a n => by rw [← hO]
  simp only [hO2] at *
  generalize hL : cntL O b.harb.letters.length = L at *
  simp only [bookA, bookL, harbA, harbL, ints, List.cons_append, List.nil_append] at *
  (refine acall_intro (E := envC (modeAt [] [29]) false [14]) (envCOk _ _ _) rfl Tryz.func28 rfl Tryz.call28 (by kernel_rfl) (by simp [Tryz.ntmps28]) ?_; simp only [Tryz.f28];  simp (maxSteps := 4000000) only [↓VX, VQ, seval, Int.reduceEq])
  ((refine ACall.pure (h1) ?_; try simp (maxSteps := 4000000) only [↓VX, VQ, seval]); try simp (maxSteps := 4000000) only [↓VX, VQ, seval, GL])
  repeat' (first | intro _ | apply And.intro)
  all_goals try first | omega | (simp only [LL]; omega) | exact nlC (by decide) _ | exact nbC rfl
  ((refine ACall.pure (hf) ?_; try simp (maxSteps := 4000000) only [↓VX, VQ, seval]); try simp (maxSteps := 4000000) only [↓VX, VQ, seval, GL])
  repeat' (first | intro _ | apply And.intro)
  all_goals try first | omega | (simp only [LL]; omega) | exact nlC (by decide) _ | exact nbC rfl
  rename_i bk hbk
  refine aloop (envCOk _ _ _) (fun i : Nat => ⟨[(8, .v (.slice 3 (F.map fairA))), (9, .v (.mslice bk 0 b.harb.letters.length b.harb.letters.length)), (10, .v (.int .i64 i))], [], [], upd m bk (some (.cells ((L i 0).map (AV.int .i64))))⟩)
   (fun i => i ≤ F.length) (fun i => F.length - i) 0 (fun _ => rfl) (by omega) (by (simp only [FE, ↓FP, seval]); try simp [hc0]) ?_
  intro i hi
  have hcl1 := hcl i
  have hcg1 := hcg i
  have hce1 := hce i
  have hcs1 := hcs i
  have hcq1 := hcq i
  simp (maxSteps := 4000000) only [↓VX, VQ, seval, ↓ixFair]
  repeat' (first | intro _ | apply And.intro)
  all_goals try first | omega | (simp only [LL]; omega) | exact nlC (by decide) _ | exact nbC rfl
  ·refine aloop (envCOk _ _ _) (fun a : Nat => ⟨[(8, .v (.slice 3 (F.map fairA))), (9, .v (.mslice bk 0 b.harb.letters.length b.harb.letters.length)), (10, .v (.int .i64 i)), (11, .v (.int .i64 a))], [], [], upd m bk (some (.cells ((L i a).map (AV.int .i64))))⟩)
    (fun a => a ≤ b.harb.letters.length) (fun a => b.harb.letters.length - a) 0 (fun _ => rfl) (by omega) (by (simp only [FE, ↓FP, seval]); try simp) ?_
   intro a ha
   have hos1 := hos a i
   have hol1 := hol a i
   have hcl2 := hcl1 a
   have hcg2 := hcg1 a
   have hcs2 := hcs1 a
   have hcq2 := hcq1 a
   by_cases hal : a < b.harb.letters.length
   ·obtain ⟨r, hdr⟩ := dropInts (l := L i a) (a := a) (by omega)
    rw [hcg2 hal] at hdr
    have hhas := has_c (F[i]!).2 (a : Int)
    simp (maxSteps := 4000000) only [↓VX, VQ, seval, ↓ixFair, ↓ixZ, hdr]
    repeat' (first | intro _ | apply And.intro)
    all_goals try first | omega | (simp only [LL]; omega) | exact nlC (by decide) _ | exact nbC rfl
    (refine ACall.pure (hhas) ?_; try simp (maxSteps := 4000000) only [↓VX, VQ, seval, GL, ↓ixFair, ↓ixZ, hdr])
    repeat' (first | intro _ | apply And.intro)
    all_goals try first | omega | (simp only [LL]; omega) | exact nlC (by decide) _ | exact nbC rfl
    ·rw [if_neg (by assumption)] at hos1
     have hst := hcs2 hal
     rw [hos1] at hst
     refine ⟨a + 1, by dsimp only; omega, by dsimp only; omega, ?_⟩
     have hov := overlay_set (L i a) a ((O a i : Nat) + 1 : Int) (by omega)
     unfold overlay at hov
     simp only [List.length_cons, List.length_nil, Nat.zero_add] at hov
     (simp only [FE, ↓FP, seval])
     refine ⟨by push_cast; rfl, ?_⟩
     rw [updTwice, hov, hst]
     push_cast
     rfl
    ·rw [if_pos (Decidable.byContradiction (by assumption))] at hos1
     have hst := hcq2 hal hos1
     (refine ⟨a + 1, by first | omega | (dsimp only; omega), by dsimp only; omega, ?_⟩; (simp only [FE, ↓FP, seval]); try simp [hst])
   ·simp (maxSteps := 4000000) only [↓VX, VQ, seval, ↓ixFair, ↓ixZ]
    repeat' (first | intro _ | apply And.intro)
    all_goals try first | omega | (simp only [LL]; omega) | exact nlC (by decide) _ | exact nbC rfl
    have hae : a = b.harb.letters.length := by omega
    subst hae
    (refine ⟨i + 1, by first | omega | (dsimp only; omega), by dsimp only; omega, ?_⟩; (simp only [FE, ↓FP, seval]); try simp [hce1])
  ·have hie : F.length = i := by omega
   refine acut_meltB (envCOk _ _ _) ⟨[(8, .v (.slice 3 (F.map fairA))), (9, .v (.slice 1 ((L i 0).map (AV.int .i64))))], [], [], m⟩ (fun (_ : Unit) => ⟨[(12, .v (.slice 1 ((allI (L F.length 0) F.length b.harb.letters.length).map (AV.int .i64)))), (13, .v (.slice 1 ((anyI (L F.length 0) b.harb.letters.length).map (AV.int .i64))))], [], [], m⟩)
    (fun _ => True) bk 1 ((L i 0).map (AV.int .i64)) [] rfl (fun _ => rfl) ?_ ?_ ?_ ?_ ?_
   ·rw [flat_ints, List.append_nil]; exact upd_same _ _ _
   ·intro e he
    obtain ⟨q, _, rfl⟩ := List.mem_map.1 he
    exact ⟨rfl, rfl⟩
   ·simp only [Fits, fitsV, fitsO, fitsL, St.melt, ↓upd, ↓lookV, ↓lookO, ↓lookL, Nat.reduceEqDiff, ↓reduceIte, ints, and_true, true_and, Option.some.injEq, meltV, meltA, Option.map_some, List.map_cons, List.map_nil]
    exact ⟨by rw [if_pos ⟨by rw [List.length_map, hcl1 0], Nat.le_refl _, by unfold maxLen; omega⟩], updUndo hbk _⟩
   ·show vcOps _ _ (_ :: _) _ _
    simp (maxSteps := 4000000) only [↓VX, VQ, seval]
    intro _
    rw [← hie]
    ((refine ACall.pure (hso) ?_; try simp (maxSteps := 4000000) only [↓VX, VQ, seval]); try simp (maxSteps := 4000000) only [↓VX, VQ, seval, GL])
    exact ⟨(), by (simp only [FE, ↓FP, seval])⟩
   ·intro _ _
    simp (maxSteps := 4000000) only [↓VX, VQ, seval]
    all_goals try first | omega | (simp only [LL]; omega) | exact nlC (by decide) _ | exact nbC rfl
    exact ⟨m, fun _ _ h => h, rfl⟩
 ·rw [if_neg q] at e0
  rw [e0]
  generalize checkB b = C at *
  simp only [bookA, bookL, harbA, harbL, ints, List.cons_append, List.nil_append, List.map_nil] at *
  (refine acall_intro (E := envC (modeAt [] [29]) false [14]) (envCOk _ _ _) rfl Tryz.func28 rfl Tryz.call28 (by kernel_rfl) (by simp [Tryz.ntmps28]) ?_; simp only [Tryz.f28];  simp (maxSteps := 4000000) only [↓VX, VQ, seval, Int.reduceEq])
  ((refine ACall.pure (h1) ?_; try simp (maxSteps := 4000000) only [↓VX, VQ, seval]); try simp (maxSteps := 4000000) only [↓VX, VQ, seval, GL])
  repeat' (first | intro _ | apply And.intro)
  all_goals try first | omega | (simp only [LL]; omega) | exact nlC (by decide) _ | exact nbC rfl
  exact ⟨m, fun _ _ h => h, rfl⟩
def sureF (a : Nat) (z : Int) (x : RTru × List Int) : Bool := decide (x.2[a]! ≠ -1) && decide (x.2[a]! = z)
def sureR (b : RBook) (a : Nat) : Bool := (fairR b).all (sureF a (((fairR b)[0]!).2[a]!))
theorem all_at {α : Type} [Inhabited α] (p : α → Bool) (l : List α) (i : Nat) (h : i < l.length) : (l.drop i).all p = (p l[i]! && (l.drop (i + 1)).all p) := by
 rw [List.drop_eq_getElem_cons h, List.all_cons, getD_any h]
theorem sure06_c (b : RBook) (hb : BOk b) (a : Nat) (ha : a < b.answers.length) : PCall Tryz.prog 80 [bookA b, .int .i64 a] (.bool (sureR b a)) := by
 intro m
 have e0 : sureR b a = ((fairR b).drop 0).all (sureF a (((fairR b)[0]!).2[a]!)) := rfl
 have hna := hb.n
 have hf := fair06_c b hb
 have hfl := fairR_length hb
 have hfw := fun (i : Nat) (q : i < (fairR b).length) => fair_way q
 have hat := all_at (sureF a (((fairR b)[0]!).2[a]!)) (fairR b)
 have hend : ∀ i, (fairR b).length ≤ i → ((fairR b).drop i).all (sureF a (((fairR b)[0]!).2[a]!)) = true := fun i h => by rw [List.drop_eq_nil_of_le h]; rfl
 generalize sureR b a = X at *
 generalize fairR b = F at *
 simp only [bookA, bookL, harbA, harbL, ints, List.cons_append, List.nil_append] at *
 (refine acall_intro (E := envC (modeAt [] []) false []) (envCOk _ _ _) rfl Tryz.func80 rfl Tryz.call80 (by kernel_rfl) (by simp [Tryz.ntmps80]) ?_; simp only [Tryz.f80];  simp (maxSteps := 4000000) only [↓VX, VQ, seval, Int.reduceEq])
 ((refine ACall.pure (hf) ?_; try simp (maxSteps := 4000000) only [↓VX, VQ, seval]); try simp (maxSteps := 4000000) only [↓VX, VQ, seval, GL])
 repeat' (first | intro _ | apply And.intro)
 all_goals try first | omega | (simp only [LL]; omega) | exact nlC (by decide) _ | exact nbC rfl
 refine aloop (envCOk _ _ _) (fun i : Nat => ⟨[(1, .v (.int .i64 a)), (5, .v (.slice 3 (F.map fairA))), (6, .v (.int .i64 i))], [], [], m⟩)
  (fun i => i ≤ F.length ∧ X = (F.drop i).all (sureF a ((F[0]!).2[a]!))) (fun i => F.length - i) 0 (fun _ => rfl) ⟨by omega, e0⟩ (by (simp only [FE, ↓FP, seval]); try simp) ?_
 rintro i ⟨hi, hX⟩
 have hfw1 := hfw i
 have hfw0 := hfw 0
 have hat1 := hat i
 have hend1 := hend i
 simp (maxSteps := 4000000) only [↓VX, VQ, seval, ↓ixFair]
 repeat' (first | intro _ | apply And.intro)
 all_goals try first | omega | (simp only [LL]; omega) | exact nlC (by decide) _ | exact nbC rfl
 ·have hil : i < F.length := by omega
  have hl1 := hfw1 hil
  have hl0 := hfw0 (by omega)
  have hat2 := hat1 hil
  rw [← hX] at hat2
  (refine adraw (by first | exact envOk _ | exact envCOk _ _ _) mixed [⟨false, false, 0⟩, ⟨false, false, 0⟩, ⟨false, false, 0⟩, ⟨false, false, 0⟩, ⟨false, false, 0⟩, ⟨false, false, 0⟩, ⟨false, false, 0⟩, ⟨false, false, 0⟩, ⟨false, false, 0⟩, ⟨false, false, 0⟩, ⟨false, false, 0⟩, ⟨false, false, 0⟩, ⟨false, false, 0⟩, ⟨false, false, 0⟩, ⟨false, false, 0⟩, ⟨false, false, 0⟩, ⟨false, false, 0⟩, ⟨false, false, 0⟩, ⟨false, false, 0⟩, ⟨false, false, 0⟩, ⟨false, false, 0⟩, ⟨false, false, 0⟩, ⟨false, false, 0⟩, ⟨false, false, 0⟩, ⟨false, false, 0⟩, ⟨false, false, 0⟩, ⟨false, false, 0⟩] (by kernel_rfl) ?_; show vcOpsD _ _ _ (_ :: _) _ _)
  simp (maxSteps := 4000000) only [↓VX, VQ, seval, ↓ixFair, ↓ixZ]
  repeat' (first | intro _ | apply And.intro)
  all_goals try first | omega | (simp only [LL]; omega) | exact nlC (by decide) _ | exact nbC rfl
  ·have h1 : ¬ (F[i]!).2[a]! = (F[0]!).2[a]! := by assumption
   rw [hat2]
   unfold sureF
   rw [decide_eq_false h1, Bool.and_false, Bool.false_and]
  ·have h1 : (F[i]!).2[a]! = (F[0]!).2[a]! := Decidable.byContradiction (by assumption)
   have h2 : ¬ (F[i]!).2[a]! = -1 := by assumption
   have hX2 : X = (F.drop (i + 1)).all (sureF a ((F[0]!).2[a]!)) := by
    rw [hat2]
    have : sureF a ((F[0]!).2[a]!) (F[i]!) = true := by
     unfold sureF
     rw [decide_eq_true h1, decide_eq_true (p := (F[i]!).2[a]! ≠ -1) h2]; rfl
    rw [this, Bool.true_and]
   refine ⟨i + 1, ⟨by omega, hX2⟩, by dsimp only; omega, ?_⟩
   (simp only [FE, ↓FP, seval])
   try simp
  ·have h2 : (F[i]!).2[a]! = -1 := Decidable.byContradiction (by assumption)
   rw [hat2]
   unfold sureF
   rw [decide_eq_false (p := (F[i]!).2[a]! ≠ -1) (fun h => h h2), Bool.false_and, Bool.false_and]
 ·rw [hX, hend1 (by omega)]
theorem thawAt (k : Nat) {E : Env} {st : St} {n : Nat} (hE : EnvOk E) {ops : Array Oper} {K : St → Prop} {α : Type} {o : Oper} {post : List Oper} (hops : ops.toList.drop k = o :: post) (hg : o.guard = none) (I : α → Head) (J : α → Prop) (hok : ∀ x, (I x).ok = true)
  (h : vcOps E ops (ops.toList.take k) (vcThaw E o (vcOps E ops post (fun st' => ∃ x, J x ∧ Fits st' (I x)))) st) (hk : ∀ x, J x → K (I x).st) : ACut E n ops K st .mk :=
 acut_thaw hE (ops.toList.take k) o post (by rw [← hops, List.take_append_drop]) hg I J hok h hk
def moreA (x : RAns) (w : Nat) : RAns := if bitI x.words w = true then x else { x with words := x.words + 2 ^ w }
def namedR (b : RBook) (a w : Nat) : RBook := { b with answers := b.answers.set a (moreA (b.answers[a]!) w) }
def ansC (l : List RAns) : List AV := ((l.map ansA).map AV.cells).flatten
theorem ansC_cons (x : RAns) (l : List RAns) : ansC (x :: l) = .int .i64 x.port :: .int .i64 x.words :: .int .i64 x.day :: ansC l := rfl
theorem ansC_at : ∀ (l : List RAns) (tail : List AV) (a : Nat), a < l.length → ∃ r, (ansC l ++ tail).drop (a * 3) = .int .i64 (l[a]!).port :: .int .i64 (l[a]!).words :: .int .i64 (l[a]!).day :: r
 | [], _, _, h => by cases h
 | x :: l, tail, 0, _ => ⟨ansC l ++ tail, rfl⟩
 | x :: l, tail, a + 1, h => by
  obtain ⟨r, e⟩ := ansC_at l tail a (by simpa using h)
  refine ⟨r, ?_⟩
  rw [show (a + 1) * 3 = a * 3 + 1 + 1 + 1 by omega]
  rw [show (x :: l)[a + 1]! = l[a]! from rfl]
  exact e
theorem ansC_set : ∀ (l : List RAns) (tail : List AV) (a : Nat) (y : RAns), a < l.length → (ansC l ++ tail).take (a * 3) ++ [.int .i64 y.port, .int .i64 y.words, .int .i64 y.day] ++ (ansC l ++ tail).drop (a * 3 + 3) = ansC (l.set a y) ++ tail
 | [], _, _, _, h => by cases h
 | x :: l, tail, 0, y, _ => rfl
 | x :: l, tail, a + 1, y, h => by
  have e := ansC_set l tail a y (by simpa using h)
  rw [show (a + 1) * 3 = a * 3 + 1 + 1 + 1 by omega, show a * 3 + 1 + 1 + 1 + 3 = (a * 3 + 3) + 1 + 1 + 1 by omega]
  rw [List.set_cons_succ, ansC_cons, ansC_cons]
  simp only [List.cons_append, List.take_succ_cons, List.drop_succ_cons]
  rw [← e]
theorem named06_c (b : RBook) (hb : BOk b) (a w : Nat) (ha : a < b.answers.length) (hw : w < 5) (m : Mem) : ACall Tryz.prog 46 [bookA b, .int .i64 a, .int .i64 w] m (fun r m' => r = bookA (namedR b a w) ∧ m' = m) := by
 have hna := hb.n
 have han := (hb.ans a ha).2.1
 have hbi := bit_c (b.answers[a]!).words w (by omega) (by omega) (by omega)
 have eb : bookA (namedR b a w) = .agg (harbL b.harb ++ [ints b.words, .int .i64 b.back, .slice 3 ((b.answers.set a (moreA (b.answers[a]!) w)).map ansA)]) := rfl
 rw [eb]
 clear eb
 simp only [bookA, bookL, harbA, harbL, ints, List.cons_append, List.nil_append] at *
 (refine acall_intro (E := envC (modeAt [3, 6, 7] []) false [1, 10]) (envCOk _ _ _) rfl Tryz.func46 rfl Tryz.call46 (by kernel_rfl) (by simp [Tryz.ntmps46]) ?_; simp only [Tryz.f46];  simp (maxSteps := 4000000) only [↓VX, VQ, seval, Int.reduceEq])
 repeat' (first | intro _ | apply And.intro)
 all_goals try first | omega | (simp only [LL]; omega) | exact nlC (by decide) _ | exact nbC rfl
 refine thawAt 3 (envCOk _ _ _) rfl rfl (fun (q : Nat × Nat × List AV) => ⟨[(1, .v (.int .i64 a)), (2, .v (.int .i64 w)), (3, .loc 3 0), (6, .loc 6 0)], [], [(3, [.int .i64 b.harb.ports, .int .i64 b.harb.lost, .slice 5 (b.harb.ships.map shipA), .slice 3 (b.harb.letters.map letA), .slice 4 (b.harb.reports.map repA), .slice 1 (b.words.map (AV.int .i64)), .int .i64 b.back, .mslice q.1 0 b.answers.length q.2.1]), (6, [.int .i64 0, .int .i64 0, .slice 5 [], .slice 3 [], .slice 4 [], .slice 1 [], .int .i64 0, .slice 3 []])], upd m q.1 (some (.cells (((b.answers.map ansA).map AV.cells).flatten ++ q.2.2)))⟩)
  (fun q => m q.1 = none ∧ b.answers.length ≤ q.2.1 ∧ q.2.1 ≤ maxLen) (fun _ => rfl) ?_ ?_
 ·show vcOps _ _ (_ :: _) _ _
  simp (maxSteps := 4000000) only [↓VX, VQ, seval, List.take_succ_cons, List.take_zero, vcThaw]
  repeat' (first | intro _ | apply And.intro)
  all_goals try first | omega | (simp only [LL]; omega) | exact nlC (by decide) _ | exact nbC rfl
  rename_i bk cap tail q1 q2 q3
  refine ⟨(bk, cap, tail), ⟨q1, q2, q3⟩, ?_⟩
  (simp only [FE, ↓FP, seval])
  try simp
 rintro ⟨bk, cap, tail⟩ ⟨hbk, hcap, hcm⟩
 dsimp only at hbk hcap hcm ⊢
 obtain ⟨R, hdr⟩ := ansC_at b.answers tail a ha
 have hst := fun y => ansC_set b.answers tail a y ha
 unfold ansC at hdr hst
 have hlc : a * 3 + 3 ≤ (((b.answers.map ansA).map AV.cells).flatten ++ tail).length := by
  have := congrArg List.length hdr
  rw [List.length_drop] at this
  simp only [List.length_cons] at this
  omega
 simp (maxSteps := 4000000) only [↓VX, VQ, seval, hdr]
 repeat' (first | intro _ | apply And.intro)
 all_goals try first | omega | (simp only [LL]; omega) | exact nlC (by decide) _ | exact nbC rfl
 cases hbv : bitI (b.answers[a]!).words w
 ·rw [hbv] at hbi
  have hmo : moreA (b.answers[a]!) w = { b.answers[a]! with words := (b.answers[a]!).words + 2 ^ w } := by unfold moreA; rw [hbv]; rfl
  (refine ACall.pure (hbi) ?_; try simp (maxSteps := 4000000) only [↓VX, VQ, seval, GL, hdr])
  repeat' (first | intro _ | apply And.intro)
  all_goals try first | omega | (simp only [LL]; omega) | exact nlC (by decide) _ | exact nbC rfl
  refine aloop (envCOk _ _ _) (fun i : Nat => ⟨[(1, .v (.int .i64 a)), (2, .v (.int .i64 w)), (3, .loc 3 0), (6, .loc 6 0), (7, .loc 7 0), (8, .v (.int .i64 ((2 ^ i : Nat) : Int))), (9, .v (.int .i64 i))], [], [(3, [.int .i64 b.harb.ports, .int .i64 b.harb.lost, .slice 5 (b.harb.ships.map shipA), .slice 3 (b.harb.letters.map letA), .slice 4 (b.harb.reports.map repA), .slice 1 (b.words.map (AV.int .i64)), .int .i64 b.back, .mslice bk 0 b.answers.length cap]), (6, [.int .i64 0, .int .i64 0, .slice 5 [], .slice 3 [], .slice 4 [], .slice 1 [], .int .i64 0, .slice 3 []]), (7, [.int .i64 (b.answers[a]!).port, .int .i64 (b.answers[a]!).words, .int .i64 (b.answers[a]!).day])], upd m bk (some (.cells (((b.answers.map ansA).map AV.cells).flatten ++ tail)))⟩)
   (fun i => i ≤ w) (fun i => w - i) 0 (fun _ => rfl) (by omega) (by (simp only [FE, ↓FP, seval]); try simp) ?_
  intro i hi
  have hp2 : 2 ^ i ≤ 2 ^ 4 := Nat.pow_le_pow_right (by decide) (by omega)
  have hp3 : 2 ^ (i + 1) = 2 ^ i * 2 := Nat.pow_succ 2 i
  simp (maxSteps := 4000000) only [↓VX, VQ, seval, hdr]
  repeat' (first | intro _ | apply And.intro)
  all_goals try first | omega | (simp only [LL]; omega) | exact nlC (by decide) _ | exact nbC rfl
  ·refine ⟨i + 1, by omega, by dsimp only; omega, ?_⟩
   (simp only [FE, ↓FP, seval])
   rw [hp3]
   refine ⟨?_, ?_⟩ <;> (push_cast; first | rfl | rw [Int.mul_comm])
  have hiw : w = i := by omega
  subst hiw
  rw [hmo]
  refine acut_melt (envCOk _ _ _) (fun (_ : Unit) => ⟨[(3, .loc 3 0), (6, .loc 6 0)], [], [(3, [.int .i64 b.harb.ports, .int .i64 b.harb.lost, .slice 5 (b.harb.ships.map shipA), .slice 3 (b.harb.letters.map letA), .slice 4 (b.harb.reports.map repA), .slice 1 (b.words.map (AV.int .i64)), .int .i64 b.back, .slice 3 ((b.answers.set a { b.answers[a]! with words := (b.answers[a]!).words + 2 ^ w }).map ansA)]), (6, [.int .i64 0, .int .i64 0, .slice 5 [], .slice 3 [], .slice 4 [], .slice 1 [], .int .i64 0, .slice 3 []])], m⟩)
   (fun _ => True) (fun _ => bk) (fun _ => 3) (fun _ => (b.answers.set a { b.answers[a]! with words := (b.answers[a]!).words + 2 ^ w }).map ansA) (fun _ => tail) (fun _ => rfl) ?_ ?_
  ·show vcOps _ _ (_ :: _) _ _
   simp (maxSteps := 4000000) only [↓VX, VQ, seval, hdr]
   repeat' (first | intro _ | apply And.intro)
   all_goals try first | omega | (simp only [LL]; omega) | exact nlC (by decide) _ | exact nbC rfl
   all_goals try exact hlc
   refine ⟨(), ⟨_, rfl, ?_, ?_⟩, ?_⟩
   ·rw [upd_same]
    have h2 := hst { b.answers[a]! with words := (b.answers[a]!).words + 2 ^ w }
    try simp only [updTwice] at h2
    try rw [show ((2 ^ w : Nat) : Int) = 2 ^ w from by push_cast; rfl]
    rw [h2]
   ·intro e he
    obtain ⟨q, _, rfl⟩ := List.mem_map.1 he
    exact ⟨rfl, rfl⟩
   ·simp only [Fits, fitsV, fitsO, fitsL, St.melt, ↓upd, ↓lookV, ↓lookO, ↓lookL, Nat.reduceEqDiff, ↓reduceIte, ints, and_true, true_and, Option.some.injEq, meltV, meltA, Option.map_some, List.map_cons, List.map_nil]
    exact ⟨by rw [if_pos ⟨by simp, hcap, hcm⟩], by rw [updTwice, updUndo hbk]⟩
  intro _ _
  simp (maxSteps := 4000000) only [↓VX, VQ, seval]
  repeat' (first | intro _ | apply And.intro)
  all_goals try first | omega | (simp only [LL]; omega) | exact nlC (by decide) _ | exact nbC rfl
  all_goals done
 ·rw [hbv] at hbi
  have hmo : moreA (b.answers[a]!) w = b.answers[a]! := by unfold moreA; rw [hbv]; rfl
  (refine ACall.pure (hbi) ?_; try simp (maxSteps := 4000000) only [↓VX, VQ, seval, GL, hdr])
  repeat' (first | intro _ | apply And.intro)
  all_goals try first | omega | (simp only [LL]; omega) | exact nlC (by decide) _ | exact nbC rfl
  rw [hmo]
  refine acut_melt (envCOk _ _ _) (fun (_ : Unit) => ⟨[(3, .loc 3 0), (6, .loc 6 0)], [], [(3, [.int .i64 b.harb.ports, .int .i64 b.harb.lost, .slice 5 (b.harb.ships.map shipA), .slice 3 (b.harb.letters.map letA), .slice 4 (b.harb.reports.map repA), .slice 1 (b.words.map (AV.int .i64)), .int .i64 b.back, .slice 3 ((b.answers.set a (b.answers[a]!)).map ansA)]), (6, [.int .i64 0, .int .i64 0, .slice 5 [], .slice 3 [], .slice 4 [], .slice 1 [], .int .i64 0, .slice 3 []])], m⟩)
   (fun _ => True) (fun _ => bk) (fun _ => 3) (fun _ => (b.answers.set a (b.answers[a]!)).map ansA) (fun _ => tail) (fun _ => rfl) ?_ ?_
  ·show vcOps _ _ (_ :: _) _ _
   simp (maxSteps := 4000000) only [↓VX, VQ, seval, hdr]
   repeat' (first | intro _ | apply And.intro)
   all_goals try first | omega | (simp only [LL]; omega) | exact nlC (by decide) _ | exact nbC rfl
   all_goals try exact hlc
   refine ⟨(), ⟨_, rfl, ?_, ?_⟩, ?_⟩
   ·rw [upd_same]
    have h2 := hst (b.answers[a]!)
    try simp only [updTwice] at h2
    try rw [show ((2 ^ w : Nat) : Int) = 2 ^ w from by push_cast; rfl]
    rw [h2]
   ·intro e he
    obtain ⟨q, _, rfl⟩ := List.mem_map.1 he
    exact ⟨rfl, rfl⟩
   ·simp only [Fits, fitsV, fitsO, fitsL, St.melt, ↓upd, ↓lookV, ↓lookO, ↓lookL, Nat.reduceEqDiff, ↓reduceIte, ints, and_true, true_and, Option.some.injEq, meltV, meltA, Option.map_some, List.map_cons, List.map_nil]
    exact ⟨by rw [if_pos ⟨by simp, hcap, hcm⟩], by rw [updTwice, updUndo hbk]⟩
  intro _ _
  simp (maxSteps := 4000000) only [↓VX, VQ, seval]
  repeat' (first | intro _ | apply And.intro)
  all_goals try first | omega | (simp only [LL]; omega) | exact nlC (by decide) _ | exact nbC rfl
  all_goals done
theorem bits31 : ∀ (x : Nat), x < 32 → ∀ w : Nat, w < 5 → bitI (x : Int) (w : Int) = false → (x : Int) + 2 ^ w ≤ 31 := by decide +kernel
theorem moreA_words {x : RAns} {w : Nat} (h1 : 1 ≤ x.words) (h2 : x.words ≤ 31) (hw : w < 5) : 1 ≤ (moreA x w).words ∧ (moreA x w).words ≤ 31 := by
 unfold moreA
 by_cases q : bitI x.words w = true
 ·rw [if_pos q]; exact ⟨h1, h2⟩
 ·rw [if_neg q]
  have := bits31 x.words.toNat (by omega) w hw (by rw [Int.toNat_of_nonneg (by omega)]; simpa using q)
  rw [Int.toNat_of_nonneg (by omega)] at this
  have h3 : (0 : Int) < 2 ^ w := Int.pow_pos (by decide)
  exact ⟨by show 1 ≤ x.words + 2 ^ w; omega, this⟩
theorem named_bok {b : RBook} (hb : BOk b) {a w : Nat} (ha : a < b.answers.length) (hw : w < 5) : BOk (namedR b a w) where
 h := hb.h
 w := hb.w
 word := hb.word
 back := hb.back
 n := by show (b.answers.set a _).length ≤ 3; rw [List.length_set]; exact hb.n
 t := hb.t
 ans := by
  intro i hi
  have hi' : i < b.answers.length := by
   have : (namedR b a w).answers.length = b.answers.length := List.length_set ..
   omega
  have e : (namedR b a w).answers[i]! = if a = i then moreA (b.answers[a]!) w else b.answers[i]! := by
   show (b.answers.set a _)[i]! = _
   rw [getD_any (by rw [List.length_set]; exact hi'), List.getElem_set, getD_any hi']
  rw [e]
  by_cases q : a = i
  ·rw [if_pos q]
   have h1 := hb.ans a ha
   have h2 := moreA_words h1.2.1.1 h1.2.1.2 hw
   have hp : (moreA (b.answers[a]!) w).port = (b.answers[a]!).port ∧ (moreA (b.answers[a]!) w).day = (b.answers[a]!).day := by unfold moreA; split <;> exact ⟨rfl, rfl⟩
   rw [hp.1, hp.2]
   exact ⟨h1.1, h2, h1.2.2⟩
  ·rw [if_neg q]; exact hb.ans i hi'
def decF (b : RBook) (a : Nat) (w : Nat) : Bool := !bitI (b.answers[a]!).words w && sureR (namedR b a w) a
def decidesR (b : RBook) (answer : Int) : List Int × Int := if indexB b answer b.answers.length = 0 then (idxF (decF b answer.toNat) 5, 0) else ([], indexB b answer b.answers.length)
theorem refdecides06_c (b : RBook) (hs : hnamesFit b.harb) (answer : Int) : PCall Tryz.prog 32 [bookA b, .int .i64 answer] (.tuple [ints (decidesR b answer).1, .int .i64 (decidesR b answer).2]) := by
 intro m
 have h1 := index06_c b hs answer b.answers.length (fun q => by have := (bok_check q).n; omega)
 have e0 : decidesR b answer = if indexB b answer b.answers.length = 0 then (idxF (decF b answer.toNat) 5, 0) else ([], indexB b answer b.answers.length) := rfl
 by_cases q : indexB b answer b.answers.length = 0
 ·obtain ⟨q1, q2⟩ := indexB_zero q
  have hb := bok_check q1
  have hna := hb.n
  obtain ⟨a, rfl⟩ : ∃ a : Nat, answer = (a : Int) := ⟨answer.toNat, by omega⟩
  rw [Int.toNat_natCast] at e0
  have ha : a < b.answers.length := by omega
  have han := (hb.ans a ha).2.1
  have hbi := fun (w : Nat) (hw : w < 5) => bit_c (b.answers[a]!).words w (by omega) (by omega) (by omega)
  have hnm := fun (w : Nat) (hw : w < 5) => named06_c b hb a w ha hw
  have hsu := fun (w : Nat) (hw : w < 5) => sure06_c (namedR b a w) (named_bok hb ha hw) a (by show a < (b.answers.set a _).length; rw [List.length_set]; exact ha)
  have hds : ∀ w, decF b a w = (!bitI (b.answers[a]!).words w && sureR (namedR b a w) a) := fun _ => rfl
  have hps := idxF_succ (decF b a)
  have hpl := idxF_length (decF b a)
  have hp0 : idxF (decF b a) 0 = [] := rfl
  rw [if_pos q] at e0
  rw [q] at h1
  rw [e0]
  clear e0
  generalize decF b a = D at *
  generalize idxF D = P at *
  have hnb : ∀ w, bookA (namedR b a w) = .agg (bookL (namedR b a w)) := fun _ => rfl
  simp only [hnb] at hnm hsu
  generalize hNB : (fun w => bookL (namedR b a w)) = NB at *
  have hNB2 : ∀ w, bookL (namedR b a w) = NB w := fun w => by rw [← hNB]
  simp only [hNB2] at hnm hsu
  clear hNB hnb hNB2
  simp only [bookA, bookL, harbA, harbL, ints, List.cons_append, List.nil_append, List.map_nil] at *
  (refine acall_intro (E := envC (modeAt [] []) false []) (envCOk _ _ _) rfl Tryz.func32 rfl Tryz.call32 (by kernel_rfl) (by simp [Tryz.ntmps32]) ?_; simp only [Tryz.f32];  simp (maxSteps := 4000000) only [↓VX, VQ, seval, Int.reduceEq])
  repeat' (first | intro _ | apply And.intro)
  all_goals try first | omega | (simp only [LL]; omega) | exact nlC (by decide) _ | exact nbC rfl
  ((refine ACall.pure (h1) ?_; try simp (maxSteps := 4000000) only [↓VX, VQ, seval]); try simp (maxSteps := 4000000) only [↓VX, VQ, seval, GL])
  repeat' (first | intro _ | apply And.intro)
  all_goals try first | omega | (simp only [LL]; omega) | exact nlC (by decide) _ | exact nbC rfl
  refine aloop (envCOk _ _ _) (fun w : Nat => ⟨[(1, .v (.int .i64 a)), (2, .v (.eptr [.int .i64 b.harb.ports, .int .i64 b.harb.lost, .slice 5 (b.harb.ships.map shipA), .slice 3 (b.harb.letters.map letA), .slice 4 (b.harb.reports.map repA), .slice 1 (b.words.map (AV.int .i64)), .int .i64 b.back, .slice 3 (b.answers.map ansA)])), (7, .v (.slice 1 ((P w).map (AV.int .i64)))), (8, .v (.int .i64 w))], [7], [], m⟩)
   (fun w => w ≤ 5) (fun w => 5 - w) 0 (fun _ => rfl) (by omega) (by (simp only [FE, ↓FP, seval]); try simp [hp0]) ?_
  intro w hw5
  have hps1 := hps w
  have hpl1 := hpl w
  have hds1 := hds w
  by_cases hwl : w < 5
  ·have hbi1 := hbi w hwl
   have hnm1 := hnm w hwl
   have hsu1 := hsu w hwl
   generalize sureR (namedR b a w) a = Sv at hsu1 hds1
   generalize bitI (b.answers[a]!).words w = Bv at hbi1 hds1
   cases Bv
   ·rw [Bool.not_false, Bool.true_and] at hds1
    simp (maxSteps := 4000000) only [↓VX, VQ, seval, ↓ixAns]
    repeat' (first | intro _ | apply And.intro)
    all_goals try first | omega | (simp only [LL]; omega) | exact nlC (by decide) _ | exact nbC rfl
    ((refine ACall.pure (hbi1) ?_; try simp (maxSteps := 4000000) only [↓VX, VQ, seval]); try simp (maxSteps := 4000000) only [↓VX, VQ, seval, GL])
    repeat' (first | intro _ | apply And.intro)
    all_goals try first | omega | (simp only [LL]; omega) | exact nlC (by decide) _ | exact nbC rfl
    refine ACall.told (hnm1 m) ?_
    rintro r2 m2 ⟨rfl, rfl⟩
    cases Sv
    ·rw [hds1, if_neg (by decide)] at hps1
     simp (maxSteps := 4000000) only [↓VX, VQ, seval]
     ((refine ACall.pure (hsu1) ?_; try simp (maxSteps := 4000000) only [↓VX, VQ, seval]); try simp (maxSteps := 4000000) only [↓VX, VQ, seval, GL])
     repeat' (first | intro _ | apply And.intro)
     all_goals try first | omega | (simp only [LL]; omega) | exact nlC (by decide) _ | exact nbC rfl
     (refine ⟨w + 1, by first | omega | (dsimp only; omega), by dsimp only; omega, ?_⟩; (simp only [FE, ↓FP, seval]); try simp [hps1])
    ·rw [hds1, if_pos rfl] at hps1
     simp (maxSteps := 4000000) only [↓VX, VQ, seval]
     ((refine ACall.pure (hsu1) ?_; try simp (maxSteps := 4000000) only [↓VX, VQ, seval]); try simp (maxSteps := 4000000) only [↓VX, VQ, seval, GL])
     repeat' (first | intro _ | apply And.intro)
     all_goals try first | omega | (simp only [LL]; omega) | exact nlC (by decide) _ | exact nbC rfl
     (refine ⟨w + 1, by first | omega | (dsimp only; omega), by dsimp only; omega, ?_⟩; (simp only [FE, ↓FP, seval]); try simp [hps1])
   ·rw [Bool.not_true, Bool.false_and] at hds1
    rw [hds1, if_neg (by decide)] at hps1
    simp (maxSteps := 4000000) only [↓VX, VQ, seval, ↓ixAns]
    repeat' (first | intro _ | apply And.intro)
    all_goals try first | omega | (simp only [LL]; omega) | exact nlC (by decide) _ | exact nbC rfl
    ((refine ACall.pure (hbi1) ?_; try simp (maxSteps := 4000000) only [↓VX, VQ, seval]); try simp (maxSteps := 4000000) only [↓VX, VQ, seval, GL])
    repeat' (first | intro _ | apply And.intro)
    all_goals try first | omega | (simp only [LL]; omega) | exact nlC (by decide) _ | exact nbC rfl
    (refine ⟨w + 1, by first | omega | (dsimp only; omega), by dsimp only; omega, ?_⟩; (simp only [FE, ↓FP, seval]); try simp [hps1])
  ·have hwe : w = 5 := by omega
   subst hwe
   simp (maxSteps := 4000000) only [↓VX, VQ, seval]
   repeat' (first | intro _ | apply And.intro)
   all_goals try first | omega | (simp only [LL]; omega) | exact nlC (by decide) _ | exact nbC rfl
   all_goals trivial
 ·rw [if_neg q] at e0
  rw [e0]
  generalize indexB b answer b.answers.length = E at *
  simp only [bookA, bookL, harbA, harbL, ints, List.cons_append, List.nil_append, List.map_nil] at *
  (refine acall_intro (E := envC (modeAt [] []) false []) (envCOk _ _ _) rfl Tryz.func32 rfl Tryz.call32 (by kernel_rfl) (by simp [Tryz.ntmps32]) ?_; simp only [Tryz.f32];  simp (maxSteps := 4000000) only [↓VX, VQ, seval, Int.reduceEq])
  repeat' (first | intro _ | apply And.intro)
  all_goals try first | omega | (simp only [LL]; omega) | exact nlC (by decide) _ | exact nbC rfl
  ((refine ACall.pure (h1) ?_; try simp (maxSteps := 4000000) only [↓VX, VQ, seval]); try simp (maxSteps := 4000000) only [↓VX, VQ, seval, GL])
  repeat' (first | intro _ | apply And.intro)
  all_goals try first | omega | (simp only [LL]; omega) | exact nlC (by decide) _ | exact nbC rfl
  all_goals trivial
def fineTo (b : RBook) (w : List Int) (k : Nat) (d : Int) : Nat → Bool
 | 0 => true
 | a + 1 => if w[a]! = (k : Int) then untilB d ((b.answers[a]!).day - b.back) else fineTo b w k d a
def fineB (b : RBook) (w : List Int) (k : Nat) (d : Int) : Bool := fineTo b w k d b.answers.length
structure RCam where
 lo : Int
 hi : Int
 yes : Int
 all : Int
def camStep (s : RCam) (d : Int) : RCam := if d < 0 then { s with all := s.all + 1 } else if s.yes = 0 then ⟨d, d, 1, s.all + 1⟩ else ⟨min s.lo d, max s.hi d, s.yes + 1, s.all + 1⟩
def camIn (b : RBook) (w : List Int) (k : Nat) (s : RCam) (l : List Int) (n : Nat) : RCam := (l.take n).foldl (fun s d => if fineB b w k d = true then camStep s d else s) s
def camTo (b : RBook) (F : List (RTru × List Int)) (k : Nat) (n : Nat) : RCam := (F.take n).foldl (fun s x => camIn b x.2 k s (rowE b.harb k x.1) (rowE b.harb k x.1).length) ⟨0, 0, 0, 0⟩
theorem camIn_succ {b : RBook} {w : List Int} {k : Nat} {s : RCam} {l : List Int} {n : Nat} (h : n < l.length) : camIn b w k s l (n + 1) = if fineB b w k (l[n]!) = true then camStep (camIn b w k s l n) (l[n]!) else camIn b w k s l n := by
 unfold camIn
 rw [List.take_succ_eq_append_getElem h, List.foldl_append, getD_any h]; rfl
theorem camTo_succ {b : RBook} {F : List (RTru × List Int)} {k n : Nat} (h : n < F.length) : camTo b F k (n + 1) = camIn b (F[n]!).2 k (camTo b F k n) (rowE b.harb k (F[n]!).1) (rowE b.harb k (F[n]!).1).length := by
 unfold camTo
 rw [List.take_succ_eq_append_getElem h, List.foldl_append, getD_any h]; rfl
theorem camStep_le {s : RCam} {d : Int} {n : Int} (h : 0 ≤ s.yes ∧ s.yes ≤ s.all ∧ s.all ≤ n) : 0 ≤ (camStep s d).yes ∧ (camStep s d).yes ≤ (camStep s d).all ∧ (camStep s d).all ≤ n + 1 := by
 unfold camStep
 split
 ·dsimp only; omega
 ·split <;> (dsimp only; omega)
theorem camIn_le {b : RBook} {w : List Int} {k : Nat} {s : RCam} {l : List Int} {c : Int} (h : 0 ≤ s.yes ∧ s.yes ≤ s.all ∧ s.all ≤ c) : ∀ n : Nat, 0 ≤ (camIn b w k s l n).yes ∧ (camIn b w k s l n).yes ≤ (camIn b w k s l n).all ∧ (camIn b w k s l n).all ≤ c + n
 | 0 => by simp [camIn]; exact h
 | n + 1 => by
  have ih := camIn_le (b := b) (w := w) (k := k) (l := l) h n
  by_cases q : n < l.length
  ·rw [camIn_succ q]
   split
   ·have := camStep_le (d := l[n]!) ih
    omega
   ·omega
  ·have e : camIn b w k s l (n + 1) = camIn b w k s l n := by
    unfold camIn
    rw [List.take_of_length_le (by omega), List.take_of_length_le (by omega)]
   rw [e]; omega
theorem camTo_le {b : RBook} {F : List (RTru × List Int)} {k : Nat} (h : ∀ i, i < F.length → (rowE b.harb k (F[i]!).1).length ≤ 3) : ∀ n, n ≤ F.length → 0 ≤ (camTo b F k n).yes ∧ (camTo b F k n).yes ≤ (camTo b F k n).all ∧ (camTo b F k n).all ≤ 3 * (n : Int)
 | 0, _ => by simp [camTo]
 | n + 1, hn => by
  have ih := camTo_le h n (by omega)
  rw [camTo_succ (by omega)]
  have h3 := h n (by omega)
  have := camIn_le (b := b) (w := (F[n]!).2) (k := k) (l := rowE b.harb k (F[n]!).1) ih (rowE b.harb k (F[n]!).1).length
  omega
def cameR (b : RBook) (letter : Int) : RCam × Int × Int :=
 if indexB b letter b.harb.letters.length = 0 then (camTo b (fairR b) letter.toNat (fairR b).length, settledR (camTo b (fairR b) letter.toNat (fairR b).length).yes (camTo b (fairR b) letter.toNat (fairR b).length).all, 0) else (⟨0, 0, 0, 0⟩, 0, indexB b letter b.harb.letters.length)
theorem take_one {l : List Int} {k : Nat} (h : k < l.length) : ((l.map (AV.int .i64)).take (k + 1)).drop k = [.int .i64 l[k]!] := by
 rw [← List.map_take, ← List.map_drop, List.take_succ_eq_append_getElem h, List.drop_append, List.drop_eq_nil_of_le (by rw [List.length_take]; omega), getD_any h, List.length_take, show k - min k l.length = 0 by omega]
 rfl
theorem refcame06_c (b : RBook) (hs : hnamesFit b.harb) (letter : Int) : PCall Tryz.prog 30 [bookA b, .int .i64 letter] (.tuple [.agg [.int .i64 (cameR b letter).1.lo, .int .i64 (cameR b letter).1.hi], .int .i64 (cameR b letter).2.1, .int .i64 (cameR b letter).2.2]) := by
 intro m
 have h1 := index06_c b hs letter b.harb.letters.length (fun q => by have := (bok_check q).h.nl; omega)
 have e0 : cameR b letter = if indexB b letter b.harb.letters.length = 0 then (camTo b (fairR b) letter.toNat (fairR b).length, settledR (camTo b (fairR b) letter.toNat (fairR b).length).yes (camTo b (fairR b) letter.toNat (fairR b).length).all, 0) else (⟨0, 0, 0, 0⟩, 0, indexB b letter b.harb.letters.length) := rfl
 by_cases q : indexB b letter b.harb.letters.length = 0
 ·obtain ⟨q1, q2⟩ := indexB_zero q
  have hb := bok_check q1
  have hna := hb.n
  have hnl := hb.h.nl
  obtain ⟨k, rfl⟩ : ∃ k : Nat, letter = (k : Int) := ⟨letter.toNat, by omega⟩
  rw [Int.toNat_natCast] at e0
  have hk : k < b.harb.letters.length := by omega
  have hf := fair06_c b hb
  have hfl := fairR_length hb
  have hfw := fun (i : Nat) (q : i < (fairR b).length) => fair_way q
  have htok := fun (i : Nat) (q : i < (fairR b).length) => show TOk b.harb ((fairR b)[i]!).1 from truths_tok hb.h (but := []) (fair_mem.1 (show (fairR b)[i]! ∈ fairR b by rw [getD_any q]; exact List.getElem_mem q)).1
  have hr3 := fun (i : Nat) (q : i < (fairR b).length) => show (rowE b.harb k ((fairR b)[i]!).1).length ≤ 3 by
   rw [rowE_length]
   have := (htok i q).len k hk
   omega
  have hday := fun (i : Nat) (q : i < (fairR b).length) => days06_c b hb _ (htok i q) k hk
  have hsoon := fun (d u : Int) => soon_c [d] u
  have hsb : ∀ d u, soonB [d] u = untilB d u := fun d u => by simp [soonB]
  have hcs := fun (n : Nat) => camTo_succ (b := b) (F := fairR b) (k := k) (n := n)
  have hcl := camTo_le (b := b) (F := fairR b) (k := k) hr3
  have hci := fun (w : List Int) (s : RCam) (l : List Int) (n : Nat) => camIn_succ (b := b) (w := w) (k := k) (s := s) (l := l) (n := n)
  have hcil := fun (w : List Int) (s : RCam) (l : List Int) (c : Int) h => camIn_le (b := b) (w := w) (k := k) (s := s) (l := l) (c := c) h
  have hst := settled_c (camTo b (fairR b) k (fairR b).length).yes (camTo b (fairR b) k (fairR b).length).all
  have hsr : settledR (camTo b (fairR b) k (fairR b).length).yes (camTo b (fairR b) k (fairR b).length).all = (if (camTo b (fairR b) k (fairR b).length).yes = (camTo b (fairR b) k (fairR b).length).all then 1 else if (camTo b (fairR b) k (fairR b).length).yes = 0 then 2 else 0) := rfl
  rw [← hsr] at hst
  have hft : ∀ w d a, fineTo b w k d (a + 1) = if w[a]! = (k : Int) then untilB d ((b.answers[a]!).day - b.back) else fineTo b w k d a := fun _ _ _ => rfl
  have hfb : ∀ w d, fineB b w k d = fineTo b w k d b.answers.length := fun _ _ => rfl
  have hf0 : ∀ w d, fineTo b w k d 0 = true := fun _ _ => rfl
  have hans := hb.ans
  have hback := hb.back
  simp only [hsb] at hsoon
  rw [if_pos q] at e0
  rw [q] at h1
  rw [e0]
  clear e0 hsr
  have hc0 : camTo b (fairR b) k 0 = ⟨0, 0, 0, 0⟩ := rfl
  have hcam : ∀ s d, camStep s d = if d < 0 then { s with all := s.all + 1 } else if s.yes = 0 then ⟨d, d, 1, s.all + 1⟩ else ⟨min s.lo d, max s.hi d, s.yes + 1, s.all + 1⟩ := fun _ _ => rfl
  have hin0 : ∀ w s l, camIn b w k s l 0 = s := fun _ _ _ => rfl
  generalize hFg : fairR b = F at *
  generalize camTo b F k = CT at *
  simp only [bookA, bookL, harbA, harbL, ints, truA, fatesA, byA, List.cons_append, List.nil_append, List.map_cons, List.map_nil] at *
  (refine acall_intro (E := envC (modeAt [4, 9] []) false []) (envCOk _ _ _) rfl Tryz.func30 rfl Tryz.call30 (by kernel_rfl) (by simp [Tryz.ntmps30]) ?_; simp only [Tryz.f30];  simp (maxSteps := 4000000) only [↓VX, VQ, seval, Int.reduceEq])
  repeat' (first | intro _ | apply And.intro)
  all_goals try first | omega | (simp only [LL]; omega) | exact nlC (by decide) _ | exact nbC rfl
  ((refine ACall.pure (h1) ?_; try simp (maxSteps := 4000000) only [↓VX, VQ, seval]); try simp (maxSteps := 4000000) only [↓VX, VQ, seval, GL])
  repeat' (first | intro _ | apply And.intro)
  all_goals try first | omega | (simp only [LL]; omega) | exact nlC (by decide) _ | exact nbC rfl
  ((refine ACall.pure (hf) ?_; try simp (maxSteps := 4000000) only [↓VX, VQ, seval]); try simp (maxSteps := 4000000) only [↓VX, VQ, seval, GL])
  repeat' (first | intro _ | apply And.intro)
  all_goals try first | omega | (simp only [LL]; omega) | exact nlC (by decide) _ | exact nbC rfl
  refine aloop (envCOk _ _ _) (fun i : Nat => ⟨[(1, .v (.int .i64 k)), (2, .v (.eptr [.int .i64 b.harb.ports, .int .i64 b.harb.lost, .slice 5 (b.harb.ships.map shipA), .slice 3 (b.harb.letters.map letA), .slice 4 (b.harb.reports.map repA), .slice 1 (b.words.map (AV.int .i64)), .int .i64 b.back, .slice 3 (b.answers.map ansA)])),
    (4, .loc 4 0), (8, .v (.slice 3 (F.map fairA))), (9, .loc 9 0), (10, .v (.int .i64 (CT i).yes)), (11, .v (.int .i64 (CT i).all)), (12, .v (.int .i64 i))], [], [(4, [.int .i64 0, .int .i64 0]), (9, [.int .i64 (CT i).lo, .int .i64 (CT i).hi])], m⟩)
   (fun i => i ≤ F.length) (fun i => F.length - i) 0 (fun _ => rfl) (by omega) (by (simp only [FE, ↓FP, seval]); try simp [hc0]) ?_
  intro i hi
  have hcs1 := hcs i
  have hcl1 := hcl i hi
  by_cases hil : i < F.length
  ·have hd1 := hday i hil
   have hcs2 := hcs1 hil
   have hr31 := hr3 i hil
   have hfw1 := hfw i hil
   have hci1 := hci (F[i]!).2 (CT i) (rowE b.harb k (F[i]!).1)
   have hcil1 := hcil (F[i]!).2 (CT i) (rowE b.harb k (F[i]!).1) (3 * (i : Int)) hcl1
   generalize rowE b.harb k (F[i]!).1 = D at *
   simp (maxSteps := 4000000) only [↓VX, VQ, seval]
   repeat' (first | intro _ | apply And.intro)
   all_goals try first | omega | (simp only [LL]; omega) | exact nlC (by decide) _ | exact nbC rfl
   (refine adraw (by first | exact envOk _ | exact envCOk _ _ _) mixed [⟨false, false, 0⟩, ⟨false, false, 0⟩, ⟨false, false, 0⟩, ⟨false, false, 0⟩, ⟨false, false, 0⟩, ⟨false, false, 0⟩, ⟨false, false, 0⟩, ⟨false, false, 0⟩, ⟨false, false, 0⟩] (by kernel_rfl) ?_; show vcOpsD _ _ _ (_ :: _) _ _)
   simp (maxSteps := 4000000) only [↓VX, VQ, seval, ↓ixFair]
   repeat' (first | intro _ | apply And.intro)
   all_goals try first | omega | (simp only [LL]; omega) | exact nlC (by decide) _ | exact nbC rfl
   refine VPure.of hd1 ?_
   simp (maxSteps := 4000000) only [↓VX, VQ, seval]
   repeat' (first | intro _ | apply And.intro)
   all_goals try first | omega | (simp only [LL]; omega) | exact nlC (by decide) _ | exact nbC rfl
   refine aloop (envCOk _ _ _) (fun j : Nat => ⟨[(1, .v (.int .i64 k)), (2, .v (.eptr [.int .i64 b.harb.ports, .int .i64 b.harb.lost, .slice 5 (b.harb.ships.map shipA), .slice 3 (b.harb.letters.map letA), .slice 4 (b.harb.reports.map repA), .slice 1 (b.words.map (AV.int .i64)), .int .i64 b.back, .slice 3 (b.answers.map ansA)])), (4, .loc 4 0), (8, .v (.slice 3 (F.map fairA))), (9, .loc 9 0), (10, .v (.int .i64 (camIn b (F[i]!).2 k (CT i) D j).yes)), (11, .v (.int .i64 (camIn b (F[i]!).2 k (CT i) D j).all)), (12, .v (.int .i64 i)), (13, .v (.slice 1 (D.map (AV.int .i64)))), (14, .v (.int .i64 j))], [],
     [(4, [.int .i64 0, .int .i64 0]), (9, [.int .i64 (camIn b (F[i]!).2 k (CT i) D j).lo, .int .i64 (camIn b (F[i]!).2 k (CT i) D j).hi])], m⟩)
    (fun j => j ≤ D.length) (fun j => D.length - j) 0 (fun _ => rfl) (by omega) (by (simp only [FE, ↓FP, seval]); try simp [hin0]) ?_
   intro j hj
   have hci2 := hci1 j
   have hcil2 := hcil1 j
   by_cases hjl : j < D.length
   ·have hci3 := hci2 hjl
    rw [hcam] at hci3
    have hft1 := hft (F[i]!).2 (D[j]!)
    have hf01 := hf0 (F[i]!).2 (D[j]!)
    have hfb1 := hfb (F[i]!).2 (D[j]!)
    have hto := take_one hjl
    generalize camIn b (F[i]!).2 k (CT i) D j = SJ at *
    simp (maxSteps := 4000000) only [↓VX, VQ, seval]
    repeat' (first | intro _ | apply And.intro)
    all_goals try first | omega | (simp only [LL]; omega) | exact nlC (by decide) _ | exact nbC rfl
    refine aloop (envCOk _ _ _) (fun a : Nat => ⟨[(1, .v (.int .i64 k)), (2, .v (.eptr [.int .i64 b.harb.ports, .int .i64 b.harb.lost, .slice 5 (b.harb.ships.map shipA), .slice 3 (b.harb.letters.map letA), .slice 4 (b.harb.reports.map repA), .slice 1 (b.words.map (AV.int .i64)), .int .i64 b.back, .slice 3 (b.answers.map ansA)])), (4, .loc 4 0), (8, .v (.slice 3 (F.map fairA))), (9, .loc 9 0), (10, .v (.int .i64 SJ.yes)), (11, .v (.int .i64 SJ.all)), (12, .v (.int .i64 i)), (13, .v (.slice 1 (D.map (AV.int .i64)))), (14, .v (.int .i64 j)), (15, .v (.bool (fineTo b (F[i]!).2 k (D[j]!) a))), (16, .v (.int .i64 a))], [],
      [(4, [.int .i64 0, .int .i64 0]), (9, [.int .i64 SJ.lo, .int .i64 SJ.hi])], m⟩)
     (fun a => a ≤ b.answers.length) (fun a => b.answers.length - a) 0 (fun _ => rfl) (by omega) (by (simp only [FE, ↓FP, seval]); try simp [hf01, -List.getElem!_eq_getElem?_getD]) ?_
    intro a ha
    have hft2 := hft1 a
    have hans1 := fun q : a < b.answers.length => (hans a q).2.2
    have hs1 := hsoon (D[j]!) ((b.answers[a]!).day - b.back)
    by_cases hal : a < b.answers.length
    ·have hans2 := hans1 hal
     have n1 : ((j : Int) + 1).toNat = j + 1 := by omega
     by_cases hwa : ((F[i]!).2)[a]! = (k : Int)
     ·rw [if_pos hwa] at hft2
      have hwT : (((F[i]!).2)[a]! = (k : Int)) = True := eq_true hwa
      simp (maxSteps := 4000000) only [↓VX, VQ, seval, ↓ixFair, ↓ixZ, hwT]
      repeat' (first | intro _ | apply And.intro)
      all_goals try first | omega | (simp only [LL]; omega) | exact nlC (by decide) _ | exact nbC rfl
      (refine adraw (by first | exact envOk _ | exact envCOk _ _ _) mixed [⟨false, false, 0⟩, ⟨false, false, 0⟩, ⟨false, false, 0⟩, ⟨false, false, 0⟩, ⟨false, false, 0⟩, ⟨false, false, 0⟩, ⟨false, false, 0⟩, ⟨false, false, 0⟩, ⟨false, false, 0⟩, ⟨false, false, 0⟩, ⟨false, false, 0⟩, ⟨false, false, 0⟩, ⟨false, false, 0⟩, ⟨false, false, 0⟩, ⟨false, false, 0⟩, ⟨false, false, 0⟩] (by kernel_rfl) ?_; show vcOpsD _ _ _ (_ :: _) _ _)
      simp (maxSteps := 4000000) only [↓VX, VQ, seval, ↓ixAns, n1, hto]
      repeat' (first | intro _ | apply And.intro)
      all_goals try first | omega | (simp only [LL]; omega) | exact nlC (by decide) _ | exact nbC rfl
      refine VPure.of hs1 ?_
      simp (maxSteps := 4000000) only [↓VX, VQ, seval]
      repeat' (first | intro _ | apply And.intro)
      all_goals try first | omega | (simp only [LL]; omega) | exact nlC (by decide) _ | exact nbC rfl
      (refine ⟨a + 1, by first | omega | (dsimp only; omega), by dsimp only; omega, ?_⟩; (simp only [FE, ↓FP, seval]); try simp [hft2, -List.getElem!_eq_getElem?_getD])
     ·rw [if_neg hwa] at hft2
      have hwT : (((F[i]!).2)[a]! = (k : Int)) = False := eq_false hwa
      simp (maxSteps := 4000000) only [↓VX, VQ, seval, ↓ixFair, ↓ixZ, hwT]
      repeat' (first | intro _ | apply And.intro)
      all_goals try first | omega | (simp only [LL]; omega) | exact nlC (by decide) _ | exact nbC rfl
      (refine ⟨a + 1, by first | omega | (dsimp only; omega), by dsimp only; omega, ?_⟩; (simp only [FE, ↓FP, seval]); try simp [hft2, -List.getElem!_eq_getElem?_getD])
    ·have hae : a = b.answers.length := by omega
     subst hae
     rw [← hfb1]
     cases hFB : fineB b (F[i]!).2 k (D[j]!)
     ·rw [hFB, if_neg (by decide)] at hci3
      simp (maxSteps := 4000000) only [↓VX, VQ, seval]
      repeat' (first | intro _ | apply And.intro)
      all_goals try first | omega | (simp only [LL]; omega) | exact nlC (by decide) _ | exact nbC rfl
      refine ⟨j + 1, by dsimp only; omega, by dsimp only; omega, ?_⟩
      (simp only [FE, ↓FP, seval])
      rw [hci3]
      try simp
     ·rw [hFB, if_pos rfl] at hci3
      by_cases hd0 : D[j]! < 0
      ·rw [if_pos hd0] at hci3
       have hdT : (D[j]! < 0) = True := eq_true hd0
       simp (maxSteps := 4000000) only [↓VX, VQ, seval, ↓ixZ, hdT]
       repeat' (first | intro _ | apply And.intro)
       all_goals try first | omega | (simp only [LL]; omega) | exact nlC (by decide) _ | exact nbC rfl
       refine ⟨j + 1, by dsimp only; omega, by dsimp only; omega, ?_⟩
       (simp only [FE, ↓FP, seval])
       rw [hci3]
       try simp
      ·have hdT : (D[j]! < 0) = False := eq_false hd0
       rw [if_neg hd0] at hci3
       by_cases hy0 : SJ.yes = 0
       ·rw [if_pos hy0] at hci3
        have hyT : (SJ.yes = 0) = True := eq_true hy0
        simp (maxSteps := 4000000) only [↓VX, VQ, seval, ↓ixZ, hdT, hyT]
        repeat' (first | intro _ | apply And.intro)
        all_goals try first | omega | (simp only [LL]; omega) | exact nlC (by decide) _ | exact nbC rfl
        (refine adraw (by first | exact envOk _ | exact envCOk _ _ _) mixed [⟨false, false, 0⟩, ⟨false, false, 0⟩, ⟨false, false, 0⟩, ⟨false, false, 0⟩, ⟨false, false, 0⟩, ⟨false, false, 0⟩, ⟨false, false, 0⟩, ⟨false, false, 0⟩, ⟨false, false, 0⟩, ⟨false, false, 0⟩] (by kernel_rfl) ?_; show vcOpsD _ _ _ (_ :: _) _ _)
        simp (maxSteps := 4000000) only [↓VX, VQ, seval, ↓ixZ, buildV]
        repeat' (first | intro _ | apply And.intro)
        all_goals try first | omega | (simp only [LL]; omega) | exact nlC (by decide) _ | exact nbC rfl
        (refine adraw (by first | exact envOk _ | exact envCOk _ _ _) mixed [⟨false, false, 0⟩, ⟨false, false, 0⟩, ⟨false, false, 0⟩, ⟨false, false, 0⟩, ⟨false, false, 0⟩, ⟨false, false, 0⟩, ⟨false, false, 0⟩, ⟨false, false, 0⟩, ⟨false, false, 0⟩, ⟨false, false, 0⟩, ⟨false, false, 0⟩, ⟨false, false, 0⟩, ⟨false, false, 0⟩, ⟨false, false, 0⟩, ⟨false, false, 0⟩, ⟨false, false, 0⟩] (by kernel_rfl) ?_; show vcOpsD _ _ _ (_ :: _) _ _)
        simp (maxSteps := 4000000) only [↓VX, VQ, seval, ↓ixZ, buildV]
        repeat' (first | intro _ | apply And.intro)
        all_goals try first | omega | (simp only [LL]; omega) | exact nlC (by decide) _ | exact nbC rfl
        refine ⟨j + 1, by dsimp only; omega, by dsimp only; omega, ?_⟩
        (simp only [FE, ↓FP, seval])
        rw [hci3]
        try simp [hy0]
       ·rw [if_neg hy0] at hci3
        have hyT : (SJ.yes = 0) = False := eq_false hy0
        simp (maxSteps := 4000000) only [↓VX, VQ, seval, ↓ixZ, hdT, hyT]
        repeat' (first | intro _ | apply And.intro)
        all_goals try first | omega | (simp only [LL]; omega) | exact nlC (by decide) _ | exact nbC rfl
        (refine adraw (by first | exact envOk _ | exact envCOk _ _ _) mixed [⟨false, false, 0⟩, ⟨false, false, 0⟩, ⟨false, false, 0⟩, ⟨false, false, 0⟩, ⟨false, false, 0⟩, ⟨false, false, 0⟩, ⟨false, false, 0⟩, ⟨false, false, 0⟩, ⟨false, false, 0⟩, ⟨false, false, 0⟩, ⟨false, false, 0⟩, ⟨false, false, 0⟩, ⟨false, false, 0⟩, ⟨false, false, 0⟩, ⟨false, false, 0⟩, ⟨false, false, 0⟩] (by kernel_rfl) ?_; show vcOpsD _ _ _ (_ :: _) _ _)
        simp (maxSteps := 4000000) only [↓VX, VQ, seval, ↓ixZ, buildV]
        repeat' (first | intro _ | apply And.intro)
        all_goals try first | omega | (simp only [LL]; omega) | exact nlC (by decide) _ | exact nbC rfl
        refine ⟨j + 1, by dsimp only; omega, by dsimp only; omega, ?_⟩
        (simp only [FE, ↓FP, seval])
        rw [hci3]
        try simp
   ·have hje : j = D.length := by omega
    subst hje
    simp (maxSteps := 4000000) only [↓VX, VQ, seval]
    repeat' (first | intro _ | apply And.intro)
    all_goals try first | omega | (simp only [LL]; omega) | exact nlC (by decide) _ | exact nbC rfl
    refine ⟨i + 1, by dsimp only; omega, by dsimp only; omega, ?_⟩
    (simp only [FE, ↓FP, seval])
    rw [hcs2]
    try simp
  ·have hie : i = F.length := by omega
   subst hie
   simp (maxSteps := 4000000) only [↓VX, VQ, seval]
   repeat' (first | intro _ | apply And.intro)
   all_goals try first | omega | (simp only [LL]; omega) | exact nlC (by decide) _ | exact nbC rfl
   (refine adraw (by first | exact envOk _ | exact envCOk _ _ _) mixed [⟨false, false, 0⟩, ⟨false, false, 0⟩, ⟨false, false, 0⟩, ⟨false, false, 0⟩, ⟨false, false, 0⟩, ⟨false, false, 0⟩, ⟨false, false, 0⟩] (by kernel_rfl) ?_; show vcOpsD _ _ _ (_ :: _) _ _)
   simp (maxSteps := 4000000) only [↓VX, VQ, seval]
   repeat' (first | intro _ | apply And.intro)
   all_goals try first | omega | (simp only [LL]; omega) | exact nlC (by decide) _ | exact nbC rfl
   refine VPure.of hst ?_
   simp (maxSteps := 4000000) only [↓VX, VQ, seval]
   repeat' (first | intro _ | apply And.intro)
   all_goals try first | omega | (simp only [LL]; omega) | exact nlC (by decide) _ | exact nbC rfl
 ·rw [if_neg q] at e0
  rw [e0]
  generalize indexB b letter b.harb.letters.length = E at *
  simp only [bookA, bookL, harbA, harbL, ints, List.cons_append, List.nil_append, List.map_nil] at *
  (refine acall_intro (E := envC (modeAt [4, 9] []) false []) (envCOk _ _ _) rfl Tryz.func30 rfl Tryz.call30 (by kernel_rfl) (by simp [Tryz.ntmps30]) ?_; simp only [Tryz.f30];  simp (maxSteps := 4000000) only [↓VX, VQ, seval, Int.reduceEq])
  repeat' (first | intro _ | apply And.intro)
  all_goals try first | omega | (simp only [LL]; omega) | exact nlC (by decide) _ | exact nbC rfl
  ((refine ACall.pure (h1) ?_; try simp (maxSteps := 4000000) only [↓VX, VQ, seval]); try simp (maxSteps := 4000000) only [↓VX, VQ, seval, GL])
  repeat' (first | intro _ | apply And.intro)
  all_goals try first | omega | (simp only [LL]; omega) | exact nlC (by decide) _ | exact nbC rfl
  all_goals trivial
end Go.Proofs.YtnfmmhmfbipkjaaGreat.Abs
