/- Lemmas for the statements of this seat (K7): they hold without conditions beyond those that each one states. -/
import Derived.Test.YtnfmmhmfbipkjaaK6
import Derived.Test.YtnfmmhmfbipkjaaK5
/- Contracts: the reference's Calls, Sunk. -/
namespace Go.Proofs.Ytnfmmhmfbipkjaa.Abs
set_option linter.unusedSimpArgs false
set_option maxHeartbeats 4000000
set_option maxRecDepth 100000
open Go Go.RowKit Go.Proofs

def settledR (a b : Int) : Int := if a = b then 1 else if a = 0 then 2 else 0

theorem indexE_zero {c n b : Int} (e : indexE c n b = 0) : c = 0 ∧ 0 ≤ n ∧ n ≤ b - 1 := by
  unfold indexE at e
  split at e
  · rename_i q
    split at e
    · omega
    · rename_i q2
      refine ⟨q, ?_⟩
      unfold offP at q2
      simp at q2
      omega
  · omega
theorem dayE_zero {d e : Int} (q : dayE d e = 0) : e = 0 ∧ 0 ≤ d ∧ d ≤ 60 := by
  unfold dayE at q
  split at q
  · rename_i q1
    split at q
    · omega
    · rename_i q2
      refine ⟨q1, ?_⟩
      unfold offP at q2
      simp at q2
      omega
  · omega
theorem known_zero {h : RHarb} {e : Int} (q : (knownR h e).2 = 0) : e = 0 ∧ (knownR h e).1 = truthsR h [] ∧ truthsR h [] ≠ [] := by
  unfold knownR at *
  split at q
  · rename_i q1; exact absurd q q1
  · rename_i q1
    split at q
    · exact absurd q (by decide)
    · rename_i q2
      exact ⟨by omega, by rw [if_neg q1, if_neg q2], q2⟩
theorem truths_fok {h : RHarb} (hh : HOk h) {but : List Int} {t : RTru} (e : t ∈ truthsR h but) : FOk h t.fleet := by
  unfold truthsR at e
  simp only [List.mem_map, List.mem_filter] at e
  obtain ⟨f, ⟨h1, h2⟩, h3⟩ := e
  subst h3
  exact fleets_fok hh h1
theorem truths_by {h : RHarb} {but : List Int} {t : RTru} (e : t ∈ truthsR h but) : t.by_ = byTo h t.fleet but h.letters.length := by
  unfold truthsR at e
  simp only [List.mem_map, List.mem_filter] at e
  obtain ⟨f, ⟨h1, h2⟩, h3⟩ := e
  subst h3
  rfl

def callsR (h : RHarb) (ship port : Int) : (Int × Int) × Int × Int :=
  let e1 := indexE (checkH h).2.2 ship h.ships.length
  let e2 := if e1 = 0 then indexE (checkH h).2.2 port h.ports else e1
  let k := knownR h e2
  if k.2 = 0 then let c := calledTo h k.1 ship.toNat port k.1.length; (c.1, settledR c.2 k.1.length, 0) else ((0, 0), 0, k.2)

theorem refcalls_c (h : RHarb) (hs : hnamesFit h) (ship port : Int) :
    PCall Try.prog 19 [harbA h, .int .i64 ship, .int .i64 port] (.tuple [.agg [.int .i64 (callsR h ship port).1.1, .int .i64 (callsR h ship port).1.2], .int .i64 (callsR h ship port).2.1, .int .i64 (callsR h ship port).2.2]) := by
  intro m
  have h1 := index_c h hs ship h.ships.length (fun q => by have := (hok_check q).n; omega)
  have h2 := index_c h hs port h.ports (fun q => by have := (hok_check q).p; omega)
  have e0 : callsR h ship port = if (knownR h (if indexE (checkH h).2.2 ship h.ships.length = 0 then indexE (checkH h).2.2 port h.ports else indexE (checkH h).2.2 ship h.ships.length)).2 = 0 then
      ((calledTo h (knownR h (if indexE (checkH h).2.2 ship h.ships.length = 0 then indexE (checkH h).2.2 port h.ports else indexE (checkH h).2.2 ship h.ships.length)).1 ship.toNat port (knownR h (if indexE (checkH h).2.2 ship h.ships.length = 0 then indexE (checkH h).2.2 port h.ports else indexE (checkH h).2.2 ship h.ships.length)).1.length).1,
        settledR (calledTo h (knownR h (if indexE (checkH h).2.2 ship h.ships.length = 0 then indexE (checkH h).2.2 port h.ports else indexE (checkH h).2.2 ship h.ships.length)).1 ship.toNat port (knownR h (if indexE (checkH h).2.2 ship h.ships.length = 0 then indexE (checkH h).2.2 port h.ports else indexE (checkH h).2.2 ship h.ships.length)).1.length).2
          (knownR h (if indexE (checkH h).2.2 ship h.ships.length = 0 then indexE (checkH h).2.2 port h.ports else indexE (checkH h).2.2 ship h.ships.length)).1.length, 0)
      else ((0, 0), 0, (knownR h (if indexE (checkH h).2.2 ship h.ships.length = 0 then indexE (checkH h).2.2 port h.ports else indexE (checkH h).2.2 ship h.ships.length)).2) := rfl
  have hz1 := fun q => indexE_zero (c := (checkH h).2.2) (n := ship) (b := h.ships.length) q
  have hz2 := fun q => indexE_zero (c := (checkH h).2.2) (n := port) (b := h.ports) q
  generalize hE1 : indexE (checkH h).2.2 ship h.ships.length = E1 at *
  generalize hE2 : indexE (checkH h).2.2 port h.ports = E2 at *
  have hk := known_c h (if E1 = 0 then E2 else E1) (fun q => by
    by_cases q1 : E1 = 0
    · exact hok_check (hz1 q1).1
    · rw [if_neg q1] at q; exact absurd q q1)
  have hkz := fun q => known_zero (h := h) (e := if E1 = 0 then E2 else E1) q
  have hcd := fun (q : (knownR h (if E1 = 0 then E2 else E1)).2 = 0) => by
    obtain ⟨q1, q2, q3⟩ := hkz q
    have q4 : E1 = 0 := by
      by_cases q1' : E1 = 0
      · exact q1'
      · rw [if_neg q1'] at q1; exact absurd q1 q1'
    have hh := hok_check (hz1 q4).1
    have hsh := (hz1 q4).2
    have := called_c h hh (knownR h (if E1 = 0 then E2 else E1)).1 (fun t ht => by rw [q2] at ht; exact truths_fok hh ht) ship.toNat port (by omega)
    rw [Int.toNat_of_nonneg hsh.1] at this
    exact (⟨this, by rw [q2]; exact truths_len hh []⟩ : _ ∧ (knownR h (if E1 = 0 then E2 else E1)).1.length ≤ 4096)
  generalize hX : callsR h ship port = X at *
  clear hE1 hE2 hX hz1 hz2
  generalize hE : (if E1 = 0 then E2 else E1) = E at *
  generalize hK : knownR h E = K at *
  simp only [harbA, harbL, trusA] at *
  (refine acall_intro (E := envC (modeAt [6, 11] []) false []) (envCOk _ _ _) rfl Try.func19 rfl Try.call19 (by kernel_rfl) (by simp [Try.ntmps19]) ?_; simp only [Try.f19];  simp (maxSteps := 4000000) only [↓VP, VQ, ite_self, Nat.reduceEqDiff, Nat.reduceAdd, Nat.reduceSub, Nat.reduceMul, Nat.reduceLeDiff, Nat.reduceLT, Nat.reduceBEq, Int.reduceLE, Int.reduceLT, Int.reduceNeg, Int.reduceAdd, Int.reduceSub, Int.reduceToNat, ↓reduceIte, reduceCtorEq, ↓ixShip, ↓ixCall, ↓ixLet, ↓ixRep])
  repeat' (first | intro _ | refine And.intro ?_ ?_)
  ((refine ACall.pure (h1) ?_; try simp (maxSteps := 4000000) only [↓VP, VQ, ite_self, Nat.reduceEqDiff, Nat.reduceAdd, Nat.reduceSub, Nat.reduceMul, Nat.reduceLeDiff, Nat.reduceLT, Nat.reduceBEq, Int.reduceLE, Int.reduceLT, Int.reduceNeg, Int.reduceAdd, Int.reduceSub, Int.reduceToNat, ↓reduceIte, reduceCtorEq, ↓ixShip, ↓ixCall, ↓ixLet, ↓ixRep]); try simp (maxSteps := 4000000) only [↓VP, VQ, ite_self, Nat.reduceEqDiff, Nat.reduceAdd, Nat.reduceSub, Nat.reduceMul, Nat.reduceLeDiff, Nat.reduceLT, Nat.reduceBEq, Int.reduceLE, Int.reduceLT, Int.reduceNeg, Int.reduceAdd, Int.reduceSub, Int.reduceToNat, ↓reduceIte, reduceCtorEq, ↓ixShip, ↓ixCall, ↓ixLet, ↓ixRep, eq_self, decide_true, decide_false, if_true, if_false, not_true_eq_false, List.append_eq])
  repeat' (first | intro _ | refine And.intro ?_ ?_)
  all_goals try (first | omega | (simp only [List.length_map, List.length_cons, List.length_nil, List.length_append, Nat.zero_add]; omega) | exact nnC _ | exact nlC (by decide) _ | exact nbC rfl)
  · have q : E1 = 0 := by assumption
    rw [if_pos q] at hE
    subst hE
    ((refine ACall.pure (h2) ?_; try simp (maxSteps := 4000000) only [↓VP, VQ, ite_self, Nat.reduceEqDiff, Nat.reduceAdd, Nat.reduceSub, Nat.reduceMul, Nat.reduceLeDiff, Nat.reduceLT, Nat.reduceBEq, Int.reduceLE, Int.reduceLT, Int.reduceNeg, Int.reduceAdd, Int.reduceSub, Int.reduceToNat, ↓reduceIte, reduceCtorEq, ↓ixShip, ↓ixCall, ↓ixLet, ↓ixRep]); try simp (maxSteps := 4000000) only [↓VP, VQ, ite_self, Nat.reduceEqDiff, Nat.reduceAdd, Nat.reduceSub, Nat.reduceMul, Nat.reduceLeDiff, Nat.reduceLT, Nat.reduceBEq, Int.reduceLE, Int.reduceLT, Int.reduceNeg, Int.reduceAdd, Int.reduceSub, Int.reduceToNat, ↓reduceIte, reduceCtorEq, ↓ixShip, ↓ixCall, ↓ixLet, ↓ixRep, eq_self, decide_true, decide_false, if_true, if_false, not_true_eq_false, List.append_eq])
    ((refine ACall.pure (hk) ?_; try simp (maxSteps := 4000000) only [↓VP, VQ, ite_self, Nat.reduceEqDiff, Nat.reduceAdd, Nat.reduceSub, Nat.reduceMul, Nat.reduceLeDiff, Nat.reduceLT, Nat.reduceBEq, Int.reduceLE, Int.reduceLT, Int.reduceNeg, Int.reduceAdd, Int.reduceSub, Int.reduceToNat, ↓reduceIte, reduceCtorEq, ↓ixShip, ↓ixCall, ↓ixLet, ↓ixRep]); try simp (maxSteps := 4000000) only [↓VP, VQ, ite_self, Nat.reduceEqDiff, Nat.reduceAdd, Nat.reduceSub, Nat.reduceMul, Nat.reduceLeDiff, Nat.reduceLT, Nat.reduceBEq, Int.reduceLE, Int.reduceLT, Int.reduceNeg, Int.reduceAdd, Int.reduceSub, Int.reduceToNat, ↓reduceIte, reduceCtorEq, ↓ixShip, ↓ixCall, ↓ixLet, ↓ixRep, eq_self, decide_true, decide_false, if_true, if_false, not_true_eq_false, List.append_eq])
    repeat' (first | intro _ | refine And.intro ?_ ?_)
    all_goals try (first | omega | (simp only [List.length_map, List.length_cons, List.length_nil, List.length_append, Nat.zero_add]; omega) | exact nnC _ | exact nlC (by decide) _ | exact nbC rfl)
    · have q2 : ¬ K.2 = 0 := by assumption
      rw [e0, if_neg q2]
    · have q2 : K.2 = 0 := by apply Decidable.byContradiction; assumption
      obtain ⟨hc, hl⟩ := hcd q2
      rw [if_pos q2] at e0
      have hse := settled_c (calledTo h K.1 ship.toNat port K.1.length).2 K.1.length
      rw [← settledR] at hse
      generalize calledTo h K.1 ship.toNat port K.1.length = C at *
      ((refine ACall.pure (hc) ?_; try simp (maxSteps := 4000000) only [↓VP, VQ, ite_self, Nat.reduceEqDiff, Nat.reduceAdd, Nat.reduceSub, Nat.reduceMul, Nat.reduceLeDiff, Nat.reduceLT, Nat.reduceBEq, Int.reduceLE, Int.reduceLT, Int.reduceNeg, Int.reduceAdd, Int.reduceSub, Int.reduceToNat, ↓reduceIte, reduceCtorEq, ↓ixShip, ↓ixCall, ↓ixLet, ↓ixRep]); try simp (maxSteps := 4000000) only [↓VP, VQ, ite_self, Nat.reduceEqDiff, Nat.reduceAdd, Nat.reduceSub, Nat.reduceMul, Nat.reduceLeDiff, Nat.reduceLT, Nat.reduceBEq, Int.reduceLE, Int.reduceLT, Int.reduceNeg, Int.reduceAdd, Int.reduceSub, Int.reduceToNat, ↓reduceIte, reduceCtorEq, ↓ixShip, ↓ixCall, ↓ixLet, ↓ixRep, eq_self, decide_true, decide_false, if_true, if_false, not_true_eq_false, List.append_eq])
      (refine adraw (by first | exact envOk _ | exact envCOk _ _ _) mixed [⟨false, false, 0⟩, ⟨true, false, 0⟩, ⟨true, false, 0⟩, ⟨true, false, 0⟩, ⟨true, false, 0⟩, ⟨false, false, 0⟩, ⟨true, false, 0⟩, ⟨true, false, 0⟩] (by kernel_rfl) ?_; show vcOpsD _ _ _ (_ :: _) _ _)
      simp (maxSteps := 4000000) only [↓VP, VQ, ite_self, Nat.reduceEqDiff, Nat.reduceAdd, Nat.reduceSub, Nat.reduceMul, Nat.reduceLeDiff, Nat.reduceLT, Nat.reduceBEq, Int.reduceLE, Int.reduceLT, Int.reduceNeg, Int.reduceAdd, Int.reduceSub, Int.reduceToNat, ↓reduceIte, reduceCtorEq, ↓ixShip, ↓ixCall, ↓ixLet, ↓ixRep]
      refine VPure.of hse ?_
      simp (maxSteps := 4000000) only [↓VP, VQ, ite_self, Nat.reduceEqDiff, Nat.reduceAdd, Nat.reduceSub, Nat.reduceMul, Nat.reduceLeDiff, Nat.reduceLT, Nat.reduceBEq, Int.reduceLE, Int.reduceLT, Int.reduceNeg, Int.reduceAdd, Int.reduceSub, Int.reduceToNat, ↓reduceIte, reduceCtorEq, ↓ixShip, ↓ixCall, ↓ixLet, ↓ixRep]
      rw [e0]
  · have q : ¬ E1 = 0 := by assumption
    rw [if_neg q] at hE
    subst hE
    ((refine ACall.pure (hk) ?_; try simp (maxSteps := 4000000) only [↓VP, VQ, ite_self, Nat.reduceEqDiff, Nat.reduceAdd, Nat.reduceSub, Nat.reduceMul, Nat.reduceLeDiff, Nat.reduceLT, Nat.reduceBEq, Int.reduceLE, Int.reduceLT, Int.reduceNeg, Int.reduceAdd, Int.reduceSub, Int.reduceToNat, ↓reduceIte, reduceCtorEq, ↓ixShip, ↓ixCall, ↓ixLet, ↓ixRep]); try simp (maxSteps := 4000000) only [↓VP, VQ, ite_self, Nat.reduceEqDiff, Nat.reduceAdd, Nat.reduceSub, Nat.reduceMul, Nat.reduceLeDiff, Nat.reduceLT, Nat.reduceBEq, Int.reduceLE, Int.reduceLT, Int.reduceNeg, Int.reduceAdd, Int.reduceSub, Int.reduceToNat, ↓reduceIte, reduceCtorEq, ↓ixShip, ↓ixCall, ↓ixLet, ↓ixRep, eq_self, decide_true, decide_false, if_true, if_false, not_true_eq_false, List.append_eq])
    repeat' (first | intro _ | refine And.intro ?_ ?_)
    all_goals try (first | omega | (simp only [List.length_map, List.length_cons, List.length_nil, List.length_append, Nat.zero_add]; omega) | exact nnC _ | exact nlC (by decide) _ | exact nbC rfl)
    · have q2 : ¬ K.2 = 0 := by assumption
      rw [e0, if_neg q2]

def sinkN (h : RHarb) (l : List RTru) (s : Nat) : Nat → Int
  | 0 => 0
  | n + 1 => sinkN h l s n + if (s : Int) ∈ lostL h (l[n]!).fleet (l[n]!).fleet.length then 1 else 0
theorem sinkN_le (h : RHarb) (l : List RTru) (s n : Nat) : 0 ≤ sinkN h l s n ∧ sinkN h l s n ≤ n := by
  induction n with
  | zero => simp [sinkN]
  | succ n ih => unfold sinkN; split <;> omega
def sureTo (h : RHarb) (l : List RTru) (k : Nat) : List Int := ((List.range k).filter fun s => decide (sinkN h l s l.length = (l.length : Int))).map fun (s : Nat) => (s : Int)
def mayTo (h : RHarb) (l : List RTru) (k : Nat) : List Int := ((List.range k).filter fun s => decide (0 < sinkN h l s l.length)).map fun (s : Nat) => (s : Int)
theorem sureTo_succ (h : RHarb) (l : List RTru) (k : Nat) : sureTo h l (k + 1) = if sinkN h l k l.length = (l.length : Int) then sureTo h l k ++ [(k : Int)] else sureTo h l k := by
  unfold sureTo
  rw [List.range_succ, List.filter_append, List.map_append]
  by_cases q : sinkN h l k l.length = (l.length : Int) <;> simp [q]
theorem mayTo_succ (h : RHarb) (l : List RTru) (k : Nat) : mayTo h l (k + 1) = if 0 < sinkN h l k l.length then mayTo h l k ++ [(k : Int)] else mayTo h l k := by
  unfold mayTo
  rw [List.range_succ, List.filter_append, List.map_append]
  by_cases q : 0 < sinkN h l k l.length <;> simp [q]
theorem filter_len (p : Nat → Bool) (k : Nat) : (((List.range k).filter p).map fun (s : Nat) => (s : Int)).length ≤ k := by
  rw [List.length_map]; exact Nat.le_trans (List.length_filter_le _ _) (by simp)

def sunkR (h : RHarb) : List Int × List Int × Int :=
  if (knownR h (checkH h).2.2).2 = 0 then (sureTo h (knownR h (checkH h).2.2).1 h.ships.length, mayTo h (knownR h (checkH h).2.2).1 h.ships.length, 0) else ([], [], (knownR h (checkH h).2.2).2)

theorem refsunk_c (h : RHarb) (hs : hnamesFit h) :
    PCall Try.prog 21 [harbA h] (.tuple [ints (sunkR h).1, ints (sunkR h).2.1, .int .i64 (sunkR h).2.2]) := by
  intro m
  have h1 := refcheck_c h hs
  have e0 : sunkR h = if (knownR h (checkH h).2.2).2 = 0 then (sureTo h (knownR h (checkH h).2.2).1 h.ships.length, mayTo h (knownR h (checkH h).2.2).1 h.ships.length, 0) else ([], [], (knownR h (checkH h).2.2).2) := rfl
  have hhk := fun q => hok_check (h := h) q
  have hk := known_c h (checkH h).2.2 hhk
  have hkz := fun q => known_zero (h := h) (e := (checkH h).2.2) q
  have hkl := fun (q : (knownR h (checkH h).2.2).2 = 0) => by
    obtain ⟨q1, q2, q3⟩ := hkz q
    have hh := hhk q1
    exact (⟨hh.n, by rw [q2]; exact truths_len hh [], fun t ht => by rw [q2] at ht; exact truths_fok hh ht⟩ : h.ships.length ≤ 3 ∧ (knownR h (checkH h).2.2).1.length ≤ 4096 ∧ ∀ t ∈ (knownR h (checkH h).2.2).1, FOk h t.fleet)
  generalize hX : sunkR h = X at *
  generalize knownR h (checkH h).2.2 = K at *
  generalize checkH h = C at *
  clear hX hkz hhk
  obtain ⟨C1, C2, C3⟩ := C
  obtain ⟨L, E⟩ := K
  have hhas := fun (l : List Int) (i : Nat) => has_c l (i : Int)
  have hlo := fun (l : List Fate) => reflost_c h l
  simp only [harbA, harbL, trusA, ints, fatesA] at *
  (refine acall_intro (E := env fun _ => .imm) (envOk _) rfl Try.func21 rfl Try.call21 (by kernel_rfl) (by simp [Try.ntmps21]) ?_; simp only [Try.f21];  simp (maxSteps := 4000000) only [↓VP, VQ, ite_self, Nat.reduceEqDiff, Nat.reduceAdd, Nat.reduceSub, Nat.reduceMul, Nat.reduceLeDiff, Nat.reduceLT, Nat.reduceBEq, Int.reduceLE, Int.reduceLT, Int.reduceNeg, Int.reduceAdd, Int.reduceSub, Int.reduceToNat, ↓reduceIte, reduceCtorEq, ↓ixShip, ↓ixCall, ↓ixLet, ↓ixRep])
  ((refine ACall.pure (h1) ?_; try simp (maxSteps := 4000000) only [↓VP, VQ, ite_self, Nat.reduceEqDiff, Nat.reduceAdd, Nat.reduceSub, Nat.reduceMul, Nat.reduceLeDiff, Nat.reduceLT, Nat.reduceBEq, Int.reduceLE, Int.reduceLT, Int.reduceNeg, Int.reduceAdd, Int.reduceSub, Int.reduceToNat, ↓reduceIte, reduceCtorEq, ↓ixShip, ↓ixCall, ↓ixLet, ↓ixRep]); try simp (maxSteps := 4000000) only [↓VP, VQ, ite_self, Nat.reduceEqDiff, Nat.reduceAdd, Nat.reduceSub, Nat.reduceMul, Nat.reduceLeDiff, Nat.reduceLT, Nat.reduceBEq, Int.reduceLE, Int.reduceLT, Int.reduceNeg, Int.reduceAdd, Int.reduceSub, Int.reduceToNat, ↓reduceIte, reduceCtorEq, ↓ixShip, ↓ixCall, ↓ixLet, ↓ixRep, eq_self, decide_true, decide_false, if_true, if_false, not_true_eq_false, List.append_eq])
  ((refine ACall.pure (hk) ?_; try simp (maxSteps := 4000000) only [↓VP, VQ, ite_self, Nat.reduceEqDiff, Nat.reduceAdd, Nat.reduceSub, Nat.reduceMul, Nat.reduceLeDiff, Nat.reduceLT, Nat.reduceBEq, Int.reduceLE, Int.reduceLT, Int.reduceNeg, Int.reduceAdd, Int.reduceSub, Int.reduceToNat, ↓reduceIte, reduceCtorEq, ↓ixShip, ↓ixCall, ↓ixLet, ↓ixRep]); try simp (maxSteps := 4000000) only [↓VP, VQ, ite_self, Nat.reduceEqDiff, Nat.reduceAdd, Nat.reduceSub, Nat.reduceMul, Nat.reduceLeDiff, Nat.reduceLT, Nat.reduceBEq, Int.reduceLE, Int.reduceLT, Int.reduceNeg, Int.reduceAdd, Int.reduceSub, Int.reduceToNat, ↓reduceIte, reduceCtorEq, ↓ixShip, ↓ixCall, ↓ixLet, ↓ixRep, eq_self, decide_true, decide_false, if_true, if_false, not_true_eq_false, List.append_eq])
  repeat' (first | intro _ | refine And.intro ?_ ?_)
  · have q : ¬ E = 0 := by assumption
    rw [e0, if_neg q]; rfl
  · have q : E = 0 := by apply Decidable.byContradiction; assumption
    obtain ⟨h3, hL, hf⟩ := hkl q
    rw [if_pos q] at e0
    refine aloop (envOk _) (fun s : Nat => ⟨[(1, .v (.eptr [.int .i64 h.ports, .int .i64 h.lost, .slice 5 (h.ships.map shipA), .slice 3 (h.letters.map letA), .slice 4 (h.reports.map repA)])), (8, .v (.slice 2 (L.map truA))), (9, .v (.slice 1 ((sureTo h L s).map (AV.int .i64)))), (10, .v (.slice 1 ((mayTo h L s).map (AV.int .i64)))), (11, .v (.int .i64 s))], [9, 10], [], m⟩)
      (fun s => s ≤ h.ships.length) (fun s => h.ships.length - s) 0 (fun _ => rfl) (by simp) (by (simp only [Fits, fitsV, fitsO, fitsL, ↓upd, ↓lookV, ↓lookO, ↓lookL, Nat.reduceEqDiff, ↓reduceIte, ints, and_true, true_and, Option.some.injEq]); simp [sureTo, mayTo]) ?_
    intro s hsl
    have hs1 := sureTo_succ h L s
    have hs2 := mayTo_succ h L s
    have hl1 : (sureTo h L s).length ≤ s := filter_len _ s
    have hl2 : (mayTo h L s).length ≤ s := filter_len _ s
    simp (maxSteps := 4000000) only [↓VP, VQ, ite_self, Nat.reduceEqDiff, Nat.reduceAdd, Nat.reduceSub, Nat.reduceMul, Nat.reduceLeDiff, Nat.reduceLT, Nat.reduceBEq, Int.reduceLE, Int.reduceLT, Int.reduceNeg, Int.reduceAdd, Int.reduceSub, Int.reduceToNat, ↓reduceIte, reduceCtorEq, ↓ixShip, ↓ixCall, ↓ixLet, ↓ixRep]
    repeat' (first | intro _ | refine And.intro ?_ ?_)
    all_goals try (first | omega | (simp only [List.length_map, List.length_cons, List.length_nil, List.length_append, Nat.zero_add]; omega) | exact nnC _ | exact nlC (by decide) _ | exact nbC rfl)
    · refine aloop (envOk _) (fun i : Nat => ⟨[(1, .v (.eptr [.int .i64 h.ports, .int .i64 h.lost, .slice 5 (h.ships.map shipA), .slice 3 (h.letters.map letA), .slice 4 (h.reports.map repA)])), (8, .v (.slice 2 (L.map truA))), (9, .v (.slice 1 ((sureTo h L s).map (AV.int .i64)))), (10, .v (.slice 1 ((mayTo h L s).map (AV.int .i64)))), (11, .v (.int .i64 s)), (12, .v (.int .i64 (sinkN h L s i))), (13, .v (.int .i64 i))], [9, 10], [], m⟩)
        (fun i => i ≤ L.length) (fun i => L.length - i) 0 (fun _ => rfl) (by simp) (by (simp only [Fits, fitsV, fitsO, fitsL, ↓upd, ↓lookV, ↓lookO, ↓lookL, Nat.reduceEqDiff, ↓reduceIte, ints, and_true, true_and, Option.some.injEq]); simp [sinkN]) ?_
      intro i hi
      have hsn : sinkN h L s (i + 1) = sinkN h L s i + if (s : Int) ∈ lostL h (L[i]!).fleet (L[i]!).fleet.length then 1 else 0 := rfl
      have hsb := sinkN_le h L s i
      simp (maxSteps := 4000000) only [↓VP, VQ, ite_self, Nat.reduceEqDiff, Nat.reduceAdd, Nat.reduceSub, Nat.reduceMul, Nat.reduceLeDiff, Nat.reduceLT, Nat.reduceBEq, Int.reduceLE, Int.reduceLT, Int.reduceNeg, Int.reduceAdd, Int.reduceSub, Int.reduceToNat, ↓reduceIte, reduceCtorEq, ↓ixShip, ↓ixCall, ↓ixLet, ↓ixRep]
      repeat' (first | intro _ | refine And.intro ?_ ?_)
      all_goals try (first | omega | (simp only [List.length_map, List.length_cons, List.length_nil, List.length_append, Nat.zero_add]; omega) | exact nnC _ | exact nlC (by decide) _ | exact nbC rfl)
      · have hilt : i < L.length := by omega
        have hfi := hf (L[i]!) (by rw [getD_any hilt]; exact List.getElem_mem hilt)
        have hlo2 := hlo (L[i]!).fleet (by rw [hfi.n]; exact Nat.le_refl _) h3
        have hhas2 := hhas (lostL h (L[i]!).fleet (L[i]!).fleet.length) s
        generalize lostL h (L[i]!).fleet (L[i]!).fleet.length = Z at *
        (refine adraw (by first | exact envOk _ | exact envCOk _ _ _) mixed [⟨false, false, 0⟩, ⟨false, false, 0⟩, ⟨false, false, 0⟩, ⟨false, false, 0⟩, ⟨false, false, 0⟩, ⟨false, false, 0⟩, ⟨false, false, 0⟩, ⟨false, false, 0⟩, ⟨false, false, 0⟩] (by kernel_rfl) ?_; show vcOpsD _ _ _ (_ :: _) _ _)
        simp (maxSteps := 4000000) only [↓VP, VQ, ite_self, Nat.reduceEqDiff, Nat.reduceAdd, Nat.reduceSub, Nat.reduceMul, Nat.reduceLeDiff, Nat.reduceLT, Nat.reduceBEq, Int.reduceLE, Int.reduceLT, Int.reduceNeg, Int.reduceAdd, Int.reduceSub, Int.reduceToNat, ↓reduceIte, reduceCtorEq, ↓ixShip, ↓ixCall, ↓ixLet, ↓ixRep, ↓ixTru]
        refine ⟨⟨by omega, by omega⟩, ?_⟩
        refine VPure.of hlo2 ?_
        simp (maxSteps := 4000000) only [↓VP, VQ, ite_self, Nat.reduceEqDiff, Nat.reduceAdd, Nat.reduceSub, Nat.reduceMul, Nat.reduceLeDiff, Nat.reduceLT, Nat.reduceBEq, Int.reduceLE, Int.reduceLT, Int.reduceNeg, Int.reduceAdd, Int.reduceSub, Int.reduceToNat, ↓reduceIte, reduceCtorEq, ↓ixShip, ↓ixCall, ↓ixLet, ↓ixRep]
        refine VPure.of hhas2 ?_
        simp (maxSteps := 4000000) only [↓VP, VQ, ite_self, Nat.reduceEqDiff, Nat.reduceAdd, Nat.reduceSub, Nat.reduceMul, Nat.reduceLeDiff, Nat.reduceLT, Nat.reduceBEq, Int.reduceLE, Int.reduceLT, Int.reduceNeg, Int.reduceAdd, Int.reduceSub, Int.reduceToNat, ↓reduceIte, reduceCtorEq, ↓ixShip, ↓ixCall, ↓ixLet, ↓ixRep]
        repeat' (first | intro _ | refine And.intro ?_ ?_)
        all_goals try (first | omega | (simp only [List.length_map, List.length_cons, List.length_nil, List.length_append, Nat.zero_add]; omega) | exact nnC _ | exact nlC (by decide) _ | exact nbC rfl)
        · have q1 : (s : Int) ∈ Z := by assumption
          rw [if_pos q1] at hsn
          (refine ⟨i + 1, by first | omega | (dsimp only; omega), by dsimp only; omega, ?_⟩; (simp only [Fits, fitsV, fitsO, fitsL, ↓upd, ↓lookV, ↓lookO, ↓lookL, Nat.reduceEqDiff, ↓reduceIte, ints, and_true, true_and, Option.some.injEq]); try simp [hsn])
        · have q1 : ¬ (s : Int) ∈ Z := by assumption
          rw [if_neg q1] at hsn
          (refine ⟨i + 1, by first | omega | (dsimp only; omega), by dsimp only; omega, ?_⟩; (simp only [Fits, fitsV, fitsO, fitsL, ↓upd, ↓lookV, ↓lookO, ↓lookL, Nat.reduceEqDiff, ↓reduceIte, ints, and_true, true_and, Option.some.injEq]); try simp [hsn])
      · have hie : i = L.length := by omega
        subst hie
        rw [if_pos (show sinkN h L s L.length = (L.length : Int) by assumption)] at hs1
        rw [if_pos (show 0 < sinkN h L s L.length by assumption)] at hs2
        (refine ⟨s + 1, by first | omega | (dsimp only; omega), by dsimp only; omega, ?_⟩; (simp only [Fits, fitsV, fitsO, fitsL, ↓upd, ↓lookV, ↓lookO, ↓lookL, Nat.reduceEqDiff, ↓reduceIte, ints, and_true, true_and, Option.some.injEq]); try simp [hs1, hs2])
      · have hie : i = L.length := by omega
        subst hie
        rw [if_pos (show sinkN h L s L.length = (L.length : Int) by assumption)] at hs1
        rw [if_neg (show ¬ 0 < sinkN h L s L.length by assumption)] at hs2
        (refine ⟨s + 1, by first | omega | (dsimp only; omega), by dsimp only; omega, ?_⟩; (simp only [Fits, fitsV, fitsO, fitsL, ↓upd, ↓lookV, ↓lookO, ↓lookL, Nat.reduceEqDiff, ↓reduceIte, ints, and_true, true_and, Option.some.injEq]); try simp [hs1, hs2])
      · have hie : i = L.length := by omega
        subst hie
        rw [if_neg (show ¬ sinkN h L s L.length = (L.length : Int) by assumption)] at hs1
        rw [if_pos (show 0 < sinkN h L s L.length by assumption)] at hs2
        (refine ⟨s + 1, by first | omega | (dsimp only; omega), by dsimp only; omega, ?_⟩; (simp only [Fits, fitsV, fitsO, fitsL, ↓upd, ↓lookV, ↓lookO, ↓lookL, Nat.reduceEqDiff, ↓reduceIte, ints, and_true, true_and, Option.some.injEq]); try simp [hs1, hs2])
      · have hie : i = L.length := by omega
        subst hie
        rw [if_neg (show ¬ sinkN h L s L.length = (L.length : Int) by assumption)] at hs1
        rw [if_neg (show ¬ 0 < sinkN h L s L.length by assumption)] at hs2
        (refine ⟨s + 1, by first | omega | (dsimp only; omega), by dsimp only; omega, ?_⟩; (simp only [Fits, fitsV, fitsO, fitsL, ↓upd, ↓lookV, ↓lookO, ↓lookL, Nat.reduceEqDiff, ↓reduceIte, ints, and_true, true_and, Option.some.injEq]); try simp [hs1, hs2])
    · rw [e0, show s = h.ships.length by omega]
end Go.Proofs.Ytnfmmhmfbipkjaa.Abs

/- Contracts: the reference's Come, By. -/
namespace Go.Proofs.Ytnfmmhmfbipkjaa.Abs
set_option linter.unusedSimpArgs false
set_option maxHeartbeats 4000000
set_option maxRecDepth 100000
open Go Go.RowKit Go.Proofs

theorem ixZ (l : List Int) (i : Int) (K : AV → Prop) : VIdx (l.map (AV.int .i64)) i K ↔ (0 ≤ i ∧ i.toNat < l.length) ∧ K (.int .i64 l[i.toNat]!) := VIdx_map (AV.int .i64) l i K

/-- What is so of each truth. -/
structure TOk (h : RHarb) (t : RTru) : Prop where
  fok : FOk h t.fleet
  n : t.by_.length = h.letters.length
  len : ∀ k (_ : k < h.letters.length), (t.by_[k]!).length ≤ 3
  ship : ∀ k (_ : k < h.letters.length), ∀ x ∈ t.by_[k]!, 0 ≤ x ∧ x.toNat < h.ships.length
theorem byTo_at (h : RHarb) (l : List Fate) (but : List Int) {n k : Nat} (hk : k < n) : (byTo h l but n)[k]! = couldL h l k but h.ships.length := by
  rw [getD_any (by rw [byTo_length]; exact hk)]
  simp [byTo]
theorem truths_tok {h : RHarb} (hh : HOk h) {but : List Int} {t : RTru} (e : t ∈ truthsR h but) : TOk h t := by
  have hb := truths_by e
  refine ⟨truths_fok hh e, by rw [hb, byTo_length], fun k hk => ?_, fun k hk x hx => ?_⟩
  · rw [hb, byTo_at h _ _ hk]
    exact Nat.le_trans (couldL_length _ _ _ _ _) hh.n
  · rw [hb, byTo_at h _ _ hk] at hx
    unfold couldL at hx
    simp only [List.mem_map, List.mem_filter, List.mem_range] at hx
    obtain ⟨i, ⟨h1, h2⟩, h3⟩ := hx
    omega

/-- Which letters' ships have come until a day. -/
def comeIn (h : RHarb) (t : RTru) (k : Nat) (day : Int) : Nat → Int
  | 0 => 0
  | n + 1 => comeIn h t k day n + if untilB (dayR h t.fleet ((t.by_[k]!)[n]!).toNat (h.letters[k]!).port) day = true then 1 else 0
def comeTo (h : RHarb) (l : List RTru) (k : Nat) (day : Int) : Nat → Int
  | 0 => 0
  | n + 1 => comeTo h l k day n + comeIn h (l[n]!) k day ((l[n]!).by_[k]!).length
def allTo (l : List RTru) (k : Nat) : Nat → Int
  | 0 => 0
  | n + 1 => allTo l k n + (((l[n]!).by_[k]!).length : Int)
theorem comeIn_le (h : RHarb) (t : RTru) (k : Nat) (day : Int) (n : Nat) : 0 ≤ comeIn h t k day n ∧ comeIn h t k day n ≤ n := by
  induction n with
  | zero => simp [comeIn]
  | succ n ih => unfold comeIn; split <;> omega
theorem allTo_le (l : List RTru) (k : Nat) (hl : ∀ t ∈ l, (t.by_[k]!).length ≤ 3) (n : Nat) (hn : n ≤ l.length) : 0 ≤ allTo l k n ∧ allTo l k n ≤ 3 * n := by
  induction n with
  | zero => simp [allTo]
  | succ n ih =>
    have h1 := ih (by omega)
    have h2 := hl (l[n]!) (by rw [getD_any (by omega)]; exact List.getElem_mem _)
    unfold allTo; omega
theorem comeTo_le (h : RHarb) (l : List RTru) (k : Nat) (day : Int) (n : Nat) : 0 ≤ comeTo h l k day n ∧ comeTo h l k day n ≤ allTo l k n := by
  induction n with
  | zero => simp [comeTo, allTo]
  | succ n ih =>
    have := comeIn_le h (l[n]!) k day ((l[n]!).by_[k]!).length
    unfold comeTo allTo; omega

def comeR (h : RHarb) (letter day : Int) : Int × Int :=
  let k := knownR h (dayE day (indexE (checkH h).2.2 letter h.letters.length))
  if k.2 = 0 then (settledR (comeTo h k.1 letter.toNat day k.1.length) (allTo k.1 letter.toNat k.1.length), 0) else (0, k.2)

theorem refcome_c (h : RHarb) (hs : hnamesFit h) (letter day : Int) :
    PCall Try.prog 25 [harbA h, .int .i64 letter, .int .i64 day] (.tuple [.int .i64 (comeR h letter day).1, .int .i64 (comeR h letter day).2]) := by
  intro m
  have h1 := index_c h hs letter h.letters.length (fun q => by have := (hok_check q).nl; omega)
  have h2 := dayOf_c day (indexE (checkH h).2.2 letter h.letters.length)
  have hhk := fun (q : dayE day (indexE (checkH h).2.2 letter h.letters.length) = 0) => hok_check (indexE_zero (dayE_zero q).1).1
  have hk := known_c h (dayE day (indexE (checkH h).2.2 letter h.letters.length)) hhk
  have e0 : comeR h letter day = if (knownR h (dayE day (indexE (checkH h).2.2 letter h.letters.length))).2 = 0 then (settledR (comeTo h (knownR h (dayE day (indexE (checkH h).2.2 letter h.letters.length))).1 letter.toNat day (knownR h (dayE day (indexE (checkH h).2.2 letter h.letters.length))).1.length)
    (allTo (knownR h (dayE day (indexE (checkH h).2.2 letter h.letters.length))).1 letter.toNat (knownR h (dayE day (indexE (checkH h).2.2 letter h.letters.length))).1.length), 0) else (0, (knownR h (dayE day (indexE (checkH h).2.2 letter h.letters.length))).2) := rfl
  have hkl := fun (q : (knownR h (dayE day (indexE (checkH h).2.2 letter h.letters.length))).2 = 0) => by
    obtain ⟨q1, q2, q3⟩ := known_zero q
    have hh := hhk q1
    have hi := (indexE_zero (dayE_zero q1).1).2
    have hd := (dayE_zero q1).2
    exact (⟨hh, by rw [q2]; exact truths_len hh [], fun t ht => by rw [q2] at ht; exact truths_tok hh ht, hi, hd⟩ : HOk h ∧ (knownR h (dayE day (indexE (checkH h).2.2 letter h.letters.length))).1.length ≤ 4096 ∧ (∀ t ∈ (knownR h (dayE day (indexE (checkH h).2.2 letter h.letters.length))).1, TOk h t) ∧ (0 ≤ letter ∧ letter ≤ (h.letters.length : Int) - 1) ∧ (0 ≤ day ∧ day ≤ 60))
  generalize hX : comeR h letter day = X at *
  generalize knownR h (dayE day (indexE (checkH h).2.2 letter h.letters.length)) = K at *
  generalize dayE day (indexE (checkH h).2.2 letter h.letters.length) = E at *
  generalize indexE (checkH h).2.2 letter h.letters.length = I at *
  clear hX hhk
  obtain ⟨L, e⟩ := K
  have hse : ∀ a b, PCall Try.prog 84 [.int .i64 a, .int .i64 b] (.int .i64 (settledR a b)) := fun a b => settled_c a b
  have hun := fun a => until_c a day
  simp only [harbA, harbL, trusA, fatesA] at *
  (refine acall_intro (E := env fun _ => .imm) (envOk _) rfl Try.func25 rfl Try.call25 (by kernel_rfl) (by simp [Try.ntmps25]) ?_; simp only [Try.f25];  simp (maxSteps := 4000000) only [↓VP, VQ, ite_self, Nat.reduceEqDiff, Nat.reduceAdd, Nat.reduceSub, Nat.reduceMul, Nat.reduceLeDiff, Nat.reduceLT, Nat.reduceBEq, Int.reduceLE, Int.reduceLT, Int.reduceNeg, Int.reduceAdd, Int.reduceSub, Int.reduceToNat, ↓reduceIte, reduceCtorEq, ↓ixShip, ↓ixCall, ↓ixLet, ↓ixRep])
  (refine adraw (by first | exact envOk _ | exact envCOk _ _ _) mixed [⟨false, false, 0⟩, ⟨false, false, 0⟩, ⟨false, false, 0⟩, ⟨false, false, 0⟩, ⟨false, false, 0⟩, ⟨false, false, 0⟩, ⟨false, false, 0⟩, ⟨false, false, 0⟩, ⟨false, false, 0⟩, ⟨false, false, 0⟩, ⟨false, false, 0⟩, ⟨false, false, 0⟩, ⟨false, false, 0⟩, ⟨false, false, 0⟩, ⟨false, false, 0⟩] (by kernel_rfl) ?_; show vcOpsD _ _ _ (_ :: _) _ _)
  simp (maxSteps := 4000000) only [↓VP, VQ, ite_self, Nat.reduceEqDiff, Nat.reduceAdd, Nat.reduceSub, Nat.reduceMul, Nat.reduceLeDiff, Nat.reduceLT, Nat.reduceBEq, Int.reduceLE, Int.reduceLT, Int.reduceNeg, Int.reduceAdd, Int.reduceSub, Int.reduceToNat, ↓reduceIte, reduceCtorEq, ↓ixShip, ↓ixCall, ↓ixLet, ↓ixRep]
  repeat' (first | intro _ | refine And.intro ?_ ?_)
  refine VPure.of h1 ?_
  simp (maxSteps := 4000000) only [↓VP, VQ, ite_self, Nat.reduceEqDiff, Nat.reduceAdd, Nat.reduceSub, Nat.reduceMul, Nat.reduceLeDiff, Nat.reduceLT, Nat.reduceBEq, Int.reduceLE, Int.reduceLT, Int.reduceNeg, Int.reduceAdd, Int.reduceSub, Int.reduceToNat, ↓reduceIte, reduceCtorEq, ↓ixShip, ↓ixCall, ↓ixLet, ↓ixRep]
  refine VPure.of h2 ?_
  simp (maxSteps := 4000000) only [↓VP, VQ, ite_self, Nat.reduceEqDiff, Nat.reduceAdd, Nat.reduceSub, Nat.reduceMul, Nat.reduceLeDiff, Nat.reduceLT, Nat.reduceBEq, Int.reduceLE, Int.reduceLT, Int.reduceNeg, Int.reduceAdd, Int.reduceSub, Int.reduceToNat, ↓reduceIte, reduceCtorEq, ↓ixShip, ↓ixCall, ↓ixLet, ↓ixRep]
  refine VPure.of hk ?_
  simp (maxSteps := 4000000) only [↓VP, VQ, ite_self, Nat.reduceEqDiff, Nat.reduceAdd, Nat.reduceSub, Nat.reduceMul, Nat.reduceLeDiff, Nat.reduceLT, Nat.reduceBEq, Int.reduceLE, Int.reduceLT, Int.reduceNeg, Int.reduceAdd, Int.reduceSub, Int.reduceToNat, ↓reduceIte, reduceCtorEq, ↓ixShip, ↓ixCall, ↓ixLet, ↓ixRep]
  repeat' (first | intro _ | refine And.intro ?_ ?_)
  all_goals try (first | omega | (simp only [List.length_map, List.length_cons, List.length_nil, List.length_append, Nat.zero_add]; omega) | exact nnC _ | exact nlC (by decide) _ | exact nbC rfl)
  · have q : ¬ e = 0 := by assumption
    rw [e0, if_neg q]
  · have q : e = 0 := by apply Decidable.byContradiction; assumption
    obtain ⟨hh, hL, hT, hle, hd⟩ := hkl q
    rw [if_pos q] at e0
    obtain ⟨k, hk0⟩ := Int.eq_ofNat_of_zero_le hle.1
    subst hk0
    have hkk : k < h.letters.length := by omega
    rw [show ((k : Int)).toNat = k by simp] at e0
    have hal := allTo_le L k (fun t ht => (hT t ht).len k hkk)
    refine aloop (envOk _) (fun i : Nat => ⟨[(1, .v (.int .i64 k)), (2, .v (.int .i64 day)), (3, .v (.eptr [.int .i64 h.ports, .int .i64 h.lost, .slice 5 (h.ships.map shipA), .slice 3 (h.letters.map letA), .slice 4 (h.reports.map repA)])), (8, .v (.slice 2 (L.map truA))), (10, .v (.int .i64 (comeTo h L k day i))), (11, .v (.int .i64 (allTo L k i))), (12, .v (.int .i64 i))], [], [], m⟩)
      (fun i => i ≤ L.length) (fun i => L.length - i) 0 (fun _ => rfl) (by simp) (by (simp only [Fits, fitsV, fitsO, fitsL, ↓upd, ↓lookV, ↓lookO, ↓lookL, Nat.reduceEqDiff, ↓reduceIte, ints, and_true, true_and, Option.some.injEq]); simp [comeTo, allTo]) ?_
    intro i hi
    have hal' := hal i hi
    have hcl' := comeTo_le h L k day i
    have hcs : comeTo h L k day (i + 1) = comeTo h L k day i + comeIn h (L[i]!) k day ((L[i]!).by_[k]!).length := rfl
    have has : allTo L k (i + 1) = allTo L k i + (((L[i]!).by_[k]!).length : Int) := rfl
    simp (maxSteps := 4000000) only [↓VP, VQ, ite_self, Nat.reduceEqDiff, Nat.reduceAdd, Nat.reduceSub, Nat.reduceMul, Nat.reduceLeDiff, Nat.reduceLT, Nat.reduceBEq, Int.reduceLE, Int.reduceLT, Int.reduceNeg, Int.reduceAdd, Int.reduceSub, Int.reduceToNat, ↓reduceIte, reduceCtorEq, ↓ixShip, ↓ixCall, ↓ixLet, ↓ixRep, ↓ixTru, ↓ixInts]
    repeat' (first | intro _ | refine And.intro ?_ ?_)
    all_goals try (first | omega | (simp only [List.length_map, List.length_cons, List.length_nil, List.length_append, Nat.zero_add]; omega) | exact nnC _ | exact nlC (by decide) _ | exact nbC rfl)
    · have ht := hT (L[i]!) (by rw [getD_any (by omega)]; exact List.getElem_mem _)
      rw [ht.n]; exact hkk
    · have hilt : i < L.length := by omega
      have ht := hT (L[i]!) (by rw [getD_any hilt]; exact List.getElem_mem hilt)
      have hb3 := ht.len k hkk
      have hsh := fun (j : Nat) (hj : j < ((L[i]!).by_[k]!).length) => ht.ship k hkk (((L[i]!).by_[k]!)[j]!) (by rw [getD_any hj]; exact List.getElem_mem hj)
      refine aloop (envOk _) (fun j : Nat => ⟨[(1, .v (.int .i64 k)), (2, .v (.int .i64 day)), (3, .v (.eptr [.int .i64 h.ports, .int .i64 h.lost, .slice 5 (h.ships.map shipA), .slice 3 (h.letters.map letA), .slice 4 (h.reports.map repA)])), (8, .v (.slice 2 (L.map truA))), (10, .v (.int .i64 (comeTo h L k day i + comeIn h (L[i]!) k day j))), (11, .v (.int .i64 (allTo L k i + j))), (12, .v (.int .i64 i)), (13, .v (.slice 1 (((L[i]!).by_[k]!).map (AV.int .i64)))), (14, .v (.int .i64 j))], [], [], m⟩)
        (fun j => j ≤ ((L[i]!).by_[k]!).length) (fun j => ((L[i]!).by_[k]!).length - j) 0 (fun _ => rfl) (by simp) (by (simp only [Fits, fitsV, fitsO, fitsL, ↓upd, ↓lookV, ↓lookO, ↓lookL, Nat.reduceEqDiff, ↓reduceIte, ints, and_true, true_and, Option.some.injEq]); simp [comeIn]) ?_
      intro j hj
      have hci := comeIn_le h (L[i]!) k day j
      have hcn : comeIn h (L[i]!) k day (j + 1) = comeIn h (L[i]!) k day j + if untilB (dayR h (L[i]!).fleet (((L[i]!).by_[k]!)[j]!).toNat (h.letters[k]!).port) day = true then 1 else 0 := rfl
      simp (maxSteps := 4000000) only [↓VP, VQ, ite_self, Nat.reduceEqDiff, Nat.reduceAdd, Nat.reduceSub, Nat.reduceMul, Nat.reduceLeDiff, Nat.reduceLT, Nat.reduceBEq, Int.reduceLE, Int.reduceLT, Int.reduceNeg, Int.reduceAdd, Int.reduceSub, Int.reduceToNat, ↓reduceIte, reduceCtorEq, ↓ixShip, ↓ixCall, ↓ixLet, ↓ixRep]
      repeat' (first | intro _ | refine And.intro ?_ ?_)
      all_goals try (first | omega | (simp only [List.length_map, List.length_cons, List.length_nil, List.length_append, Nat.zero_add]; omega) | exact nnC _ | exact nlC (by decide) _ | exact nbC rfl)
      · have hjlt : j < ((L[i]!).by_[k]!).length := by omega
        have hsj := hsh j hjlt
        have hday := refday_c h hh (L[i]!).fleet (((L[i]!).by_[k]!)[j]!).toNat (h.letters[k]!).port hsj.2 (by rw [ht.fok.n]; exact hsj.2) (ht.fok.late _ (by rw [ht.fok.n]; exact hsj.2))
        rw [Int.toNat_of_nonneg hsj.1] at hday
        generalize hD : dayR h (L[i]!).fleet (((L[i]!).by_[k]!)[j]!).toNat (h.letters[k]!).port = D at *
        simp only [harbA, harbL, fatesA] at hday
        have hun' := hun D
        (refine adraw (by first | exact envOk _ | exact envCOk _ _ _) mixed [⟨false, false, 0⟩, ⟨false, false, 0⟩, ⟨false, false, 0⟩, ⟨false, false, 0⟩, ⟨false, false, 0⟩, ⟨false, false, 0⟩, ⟨false, false, 0⟩, ⟨false, false, 0⟩, ⟨false, false, 0⟩, ⟨false, false, 0⟩, ⟨false, false, 0⟩, ⟨false, false, 0⟩, ⟨false, false, 0⟩, ⟨false, false, 0⟩, ⟨false, false, 0⟩, ⟨false, false, 0⟩, ⟨false, false, 0⟩, ⟨false, false, 0⟩, ⟨false, false, 0⟩] (by kernel_rfl) ?_; show vcOpsD _ _ _ (_ :: _) _ _)
        simp (maxSteps := 4000000) only [↓VP, VQ, ite_self, Nat.reduceEqDiff, Nat.reduceAdd, Nat.reduceSub, Nat.reduceMul, Nat.reduceLeDiff, Nat.reduceLT, Nat.reduceBEq, Int.reduceLE, Int.reduceLT, Int.reduceNeg, Int.reduceAdd, Int.reduceSub, Int.reduceToNat, ↓reduceIte, reduceCtorEq, ↓ixShip, ↓ixCall, ↓ixLet, ↓ixRep, ↓ixTru, ↓ixInts, ↓ixZ]
        repeat' (first | intro _ | refine And.intro ?_ ?_)
        all_goals try (first | omega | (simp only [List.length_map, List.length_cons, List.length_nil, List.length_append, Nat.zero_add]; omega) | exact nnC _ | exact nlC (by decide) _ | exact nbC rfl)
        refine VPure.of hday ?_
        simp (maxSteps := 4000000) only [↓VP, VQ, ite_self, Nat.reduceEqDiff, Nat.reduceAdd, Nat.reduceSub, Nat.reduceMul, Nat.reduceLeDiff, Nat.reduceLT, Nat.reduceBEq, Int.reduceLE, Int.reduceLT, Int.reduceNeg, Int.reduceAdd, Int.reduceSub, Int.reduceToNat, ↓reduceIte, reduceCtorEq, ↓ixShip, ↓ixCall, ↓ixLet, ↓ixRep]
        refine VPure.of hun' ?_
        simp (maxSteps := 4000000) only [↓VP, VQ, ite_self, Nat.reduceEqDiff, Nat.reduceAdd, Nat.reduceSub, Nat.reduceMul, Nat.reduceLeDiff, Nat.reduceLT, Nat.reduceBEq, Int.reduceLE, Int.reduceLT, Int.reduceNeg, Int.reduceAdd, Int.reduceSub, Int.reduceToNat, ↓reduceIte, reduceCtorEq, ↓ixShip, ↓ixCall, ↓ixLet, ↓ixRep]
        repeat' (first | intro _ | refine And.intro ?_ ?_)
        all_goals try (first | omega | (simp only [List.length_map, List.length_cons, List.length_nil, List.length_append, Nat.zero_add]; omega) | exact nnC _ | exact nlC (by decide) _ | exact nbC rfl)
        · have q1 : untilB D day = true := by assumption
          rw [if_pos q1] at hcn
          (refine ⟨j + 1, by first | omega | (dsimp only; omega), by dsimp only; omega, ?_⟩; (simp only [Fits, fitsV, fitsO, fitsL, ↓upd, ↓lookV, ↓lookO, ↓lookL, Nat.reduceEqDiff, ↓reduceIte, ints, and_true, true_and, Option.some.injEq]); try simp [hcn, Int.add_assoc, -List.getElem!_eq_getElem?_getD])
        · have q1 : ¬ untilB D day = true := by assumption
          rw [if_neg q1] at hcn
          (refine ⟨j + 1, by first | omega | (dsimp only; omega), by dsimp only; omega, ?_⟩; (simp only [Fits, fitsV, fitsO, fitsL, ↓upd, ↓lookV, ↓lookO, ↓lookL, Nat.reduceEqDiff, ↓reduceIte, ints, and_true, true_and, Option.some.injEq]); try simp [hcn, Int.add_assoc, -List.getElem!_eq_getElem?_getD])
      · have hje : j = ((L[i]!).by_[k]!).length := by omega
        subst hje
        (refine ⟨i + 1, by first | omega | (dsimp only; omega), by dsimp only; omega, ?_⟩; (simp only [Fits, fitsV, fitsO, fitsL, ↓upd, ↓lookV, ↓lookO, ↓lookL, Nat.reduceEqDiff, ↓reduceIte, ints, and_true, true_and, Option.some.injEq]); try simp [hcs, has])
    · have hie : i = L.length := by omega
      subst hie
      have hse' := hse (comeTo h L k day L.length) (allTo L k L.length)
      ((refine ACall.pure (hse') ?_; try simp (maxSteps := 4000000) only [↓VP, VQ, ite_self, Nat.reduceEqDiff, Nat.reduceAdd, Nat.reduceSub, Nat.reduceMul, Nat.reduceLeDiff, Nat.reduceLT, Nat.reduceBEq, Int.reduceLE, Int.reduceLT, Int.reduceNeg, Int.reduceAdd, Int.reduceSub, Int.reduceToNat, ↓reduceIte, reduceCtorEq, ↓ixShip, ↓ixCall, ↓ixLet, ↓ixRep]); try simp (maxSteps := 4000000) only [↓VP, VQ, ite_self, Nat.reduceEqDiff, Nat.reduceAdd, Nat.reduceSub, Nat.reduceMul, Nat.reduceLeDiff, Nat.reduceLT, Nat.reduceBEq, Int.reduceLE, Int.reduceLT, Int.reduceNeg, Int.reduceAdd, Int.reduceSub, Int.reduceToNat, ↓reduceIte, reduceCtorEq, ↓ixShip, ↓ixCall, ↓ixLet, ↓ixRep, eq_self, decide_true, decide_false, if_true, if_false, not_true_eq_false, List.append_eq])
      rw [e0]

/-- Is there a truth by which a letter goes by a ship? -/
def metB (l : List RTru) (k s n : Nat) : Bool := (List.range n).any fun i => decide ((s : Int) ∈ (l[i]!).by_[k]!)
theorem metB_succ (l : List RTru) (k s n : Nat) : metB l k s (n + 1) = (metB l k s n || decide ((s : Int) ∈ (l[n]!).by_[k]!)) := by
  unfold metB; rw [List.range_succ, List.any_append]; simp
def metL (l : List RTru) (k n : Nat) : List Int := ((List.range n).filter fun s => metB l k s l.length).map fun (s : Nat) => (s : Int)
theorem metL_succ (l : List RTru) (k n : Nat) : metL l k (n + 1) = if metB l k n l.length = true then metL l k n ++ [(n : Int)] else metL l k n := by
  unfold metL
  rw [List.range_succ, List.filter_append, List.map_append]
  by_cases q : metB l k n l.length = true <;> simp [q]
def byR (h : RHarb) (letter : Int) : List Int × Int :=
  if (knownR h (indexE (checkH h).2.2 letter h.letters.length)).2 = 0 then (metL (knownR h (indexE (checkH h).2.2 letter h.letters.length)).1 letter.toNat h.ships.length, 0) else ([], (knownR h (indexE (checkH h).2.2 letter h.letters.length)).2)

theorem refby_c (h : RHarb) (hs : hnamesFit h) (letter : Int) :
    PCall Try.prog 27 [harbA h, .int .i64 letter] (.tuple [ints (byR h letter).1, .int .i64 (byR h letter).2]) := by
  intro m
  have h1 := index_c h hs letter h.letters.length (fun q => by have := (hok_check q).nl; omega)
  have hhk := fun (q : indexE (checkH h).2.2 letter h.letters.length = 0) => hok_check (indexE_zero q).1
  have hk := known_c h (indexE (checkH h).2.2 letter h.letters.length) hhk
  have e0 : byR h letter = if (knownR h (indexE (checkH h).2.2 letter h.letters.length)).2 = 0 then (metL (knownR h (indexE (checkH h).2.2 letter h.letters.length)).1 letter.toNat h.ships.length, 0) else ([], (knownR h (indexE (checkH h).2.2 letter h.letters.length)).2) := rfl
  have hkl := fun (q : (knownR h (indexE (checkH h).2.2 letter h.letters.length)).2 = 0) => by
    obtain ⟨q1, q2, q3⟩ := known_zero q
    have hh := hhk q1
    have hi := (indexE_zero q1).2
    exact (⟨hh, by rw [q2]; exact truths_len hh [], fun t ht => by rw [q2] at ht; exact truths_tok hh ht, hi⟩ : HOk h ∧ (knownR h (indexE (checkH h).2.2 letter h.letters.length)).1.length ≤ 4096 ∧ (∀ t ∈ (knownR h (indexE (checkH h).2.2 letter h.letters.length)).1, TOk h t) ∧ (0 ≤ letter ∧ letter ≤ (h.letters.length : Int) - 1))
  generalize hX : byR h letter = X at *
  generalize knownR h (indexE (checkH h).2.2 letter h.letters.length) = K at *
  generalize indexE (checkH h).2.2 letter h.letters.length = I at *
  clear hX hhk
  obtain ⟨L, e⟩ := K
  have hhas := fun (l : List Int) (i : Nat) => has_c l (i : Int)
  simp only [harbA, harbL, trusA, fatesA, ints] at *
  (refine acall_intro (E := env fun _ => .imm) (envOk _) rfl Try.func27 rfl Try.call27 (by kernel_rfl) (by simp [Try.ntmps27]) ?_; simp only [Try.f27];  simp (maxSteps := 4000000) only [↓VP, VQ, ite_self, Nat.reduceEqDiff, Nat.reduceAdd, Nat.reduceSub, Nat.reduceMul, Nat.reduceLeDiff, Nat.reduceLT, Nat.reduceBEq, Int.reduceLE, Int.reduceLT, Int.reduceNeg, Int.reduceAdd, Int.reduceSub, Int.reduceToNat, ↓reduceIte, reduceCtorEq, ↓ixShip, ↓ixCall, ↓ixLet, ↓ixRep])
  (refine adraw (by first | exact envOk _ | exact envCOk _ _ _) mixed [⟨false, false, 0⟩, ⟨false, false, 0⟩, ⟨false, false, 0⟩, ⟨false, false, 0⟩, ⟨false, false, 0⟩, ⟨false, false, 0⟩, ⟨false, false, 0⟩, ⟨false, false, 0⟩, ⟨false, false, 0⟩, ⟨false, false, 0⟩, ⟨false, false, 0⟩, ⟨false, false, 0⟩, ⟨false, false, 0⟩] (by kernel_rfl) ?_; show vcOpsD _ _ _ (_ :: _) _ _)
  simp (maxSteps := 4000000) only [↓VP, VQ, ite_self, Nat.reduceEqDiff, Nat.reduceAdd, Nat.reduceSub, Nat.reduceMul, Nat.reduceLeDiff, Nat.reduceLT, Nat.reduceBEq, Int.reduceLE, Int.reduceLT, Int.reduceNeg, Int.reduceAdd, Int.reduceSub, Int.reduceToNat, ↓reduceIte, reduceCtorEq, ↓ixShip, ↓ixCall, ↓ixLet, ↓ixRep]
  repeat' (first | intro _ | refine And.intro ?_ ?_)
  refine VPure.of h1 ?_
  simp (maxSteps := 4000000) only [↓VP, VQ, ite_self, Nat.reduceEqDiff, Nat.reduceAdd, Nat.reduceSub, Nat.reduceMul, Nat.reduceLeDiff, Nat.reduceLT, Nat.reduceBEq, Int.reduceLE, Int.reduceLT, Int.reduceNeg, Int.reduceAdd, Int.reduceSub, Int.reduceToNat, ↓reduceIte, reduceCtorEq, ↓ixShip, ↓ixCall, ↓ixLet, ↓ixRep]
  refine VPure.of hk ?_
  simp (maxSteps := 4000000) only [↓VP, VQ, ite_self, Nat.reduceEqDiff, Nat.reduceAdd, Nat.reduceSub, Nat.reduceMul, Nat.reduceLeDiff, Nat.reduceLT, Nat.reduceBEq, Int.reduceLE, Int.reduceLT, Int.reduceNeg, Int.reduceAdd, Int.reduceSub, Int.reduceToNat, ↓reduceIte, reduceCtorEq, ↓ixShip, ↓ixCall, ↓ixLet, ↓ixRep]
  repeat' (first | intro _ | refine And.intro ?_ ?_)
  all_goals try (first | omega | (simp only [List.length_map, List.length_cons, List.length_nil, List.length_append, Nat.zero_add]; omega) | exact nnC _ | exact nlC (by decide) _ | exact nbC rfl)
  · have q : ¬ e = 0 := by assumption
    rw [e0, if_neg q]; rfl
  · have q : e = 0 := by apply Decidable.byContradiction; assumption
    obtain ⟨hh, hL, hT, hle⟩ := hkl q
    have h3 := hh.n
    rw [if_pos q] at e0
    obtain ⟨k, hk0⟩ := Int.eq_ofNat_of_zero_le hle.1
    subst hk0
    have hkk : k < h.letters.length := by omega
    rw [show ((k : Int)).toNat = k by simp] at e0
    refine aloop (envOk _) (fun s : Nat => ⟨[(1, .v (.int .i64 k)), (2, .v (.eptr [.int .i64 h.ports, .int .i64 h.lost, .slice 5 (h.ships.map shipA), .slice 3 (h.letters.map letA), .slice 4 (h.reports.map repA)])), (6, .v (.slice 2 (L.map truA))), (8, .v (.slice 1 ((metL L k s).map (AV.int .i64)))), (9, .v (.int .i64 s))], [8], [], m⟩)
      (fun s => s ≤ h.ships.length) (fun s => h.ships.length - s) 0 (fun _ => rfl) (by simp) (by (simp only [Fits, fitsV, fitsO, fitsL, ↓upd, ↓lookV, ↓lookO, ↓lookL, Nat.reduceEqDiff, ↓reduceIte, ints, and_true, true_and, Option.some.injEq]); simp [metL]) ?_
    intro s hsl
    have hms := metL_succ L k s
    have hml : (metL L k s).length ≤ s := filter_len _ s
    simp (maxSteps := 4000000) only [↓VP, VQ, ite_self, Nat.reduceEqDiff, Nat.reduceAdd, Nat.reduceSub, Nat.reduceMul, Nat.reduceLeDiff, Nat.reduceLT, Nat.reduceBEq, Int.reduceLE, Int.reduceLT, Int.reduceNeg, Int.reduceAdd, Int.reduceSub, Int.reduceToNat, ↓reduceIte, reduceCtorEq, ↓ixShip, ↓ixCall, ↓ixLet, ↓ixRep]
    repeat' (first | intro _ | refine And.intro ?_ ?_)
    all_goals try (first | omega | (simp only [List.length_map, List.length_cons, List.length_nil, List.length_append, Nat.zero_add]; omega) | exact nnC _ | exact nlC (by decide) _ | exact nbC rfl)
    · refine aloop (envOk _) (fun i : Nat => ⟨[(1, .v (.int .i64 k)), (2, .v (.eptr [.int .i64 h.ports, .int .i64 h.lost, .slice 5 (h.ships.map shipA), .slice 3 (h.letters.map letA), .slice 4 (h.reports.map repA)])), (6, .v (.slice 2 (L.map truA))), (8, .v (.slice 1 ((metL L k s).map (AV.int .i64)))), (9, .v (.int .i64 s)), (10, .v (.bool (metB L k s i))), (11, .v (.int .i64 i))], [8], [], m⟩)
        (fun i => i ≤ L.length) (fun i => L.length - i) 0 (fun _ => rfl) (by simp) (by (simp only [Fits, fitsV, fitsO, fitsL, ↓upd, ↓lookV, ↓lookO, ↓lookL, Nat.reduceEqDiff, ↓reduceIte, ints, and_true, true_and, Option.some.injEq]); simp [metB]) ?_
      intro i hi
      have hbs := metB_succ L k s i
      generalize hB : metB L k s i = B at *
      simp (maxSteps := 4000000) only [↓VP, VQ, ite_self, Nat.reduceEqDiff, Nat.reduceAdd, Nat.reduceSub, Nat.reduceMul, Nat.reduceLeDiff, Nat.reduceLT, Nat.reduceBEq, Int.reduceLE, Int.reduceLT, Int.reduceNeg, Int.reduceAdd, Int.reduceSub, Int.reduceToNat, ↓reduceIte, reduceCtorEq, ↓ixShip, ↓ixCall, ↓ixLet, ↓ixRep, ↓ixTru, ↓ixInts]
      repeat' (first | intro _ | refine And.intro ?_ ?_)
      all_goals try (first | omega | (simp only [List.length_map, List.length_cons, List.length_nil, List.length_append, Nat.zero_add]; omega) | exact nnC _ | exact nlC (by decide) _ | exact nbC rfl)
      · have ht := hT (L[i]!) (by rw [getD_any (by omega)]; exact List.getElem_mem _)
        rw [ht.n]; exact hkk
      · have hhas2 := hhas ((L[i]!).by_[k]!) s
        have q1 : B = false := by assumption
        ((refine ACall.pure (hhas2) ?_; try simp (maxSteps := 4000000) only [↓VP, VQ, ite_self, Nat.reduceEqDiff, Nat.reduceAdd, Nat.reduceSub, Nat.reduceMul, Nat.reduceLeDiff, Nat.reduceLT, Nat.reduceBEq, Int.reduceLE, Int.reduceLT, Int.reduceNeg, Int.reduceAdd, Int.reduceSub, Int.reduceToNat, ↓reduceIte, reduceCtorEq, ↓ixShip, ↓ixCall, ↓ixLet, ↓ixRep]); try simp (maxSteps := 4000000) only [↓VP, VQ, ite_self, Nat.reduceEqDiff, Nat.reduceAdd, Nat.reduceSub, Nat.reduceMul, Nat.reduceLeDiff, Nat.reduceLT, Nat.reduceBEq, Int.reduceLE, Int.reduceLT, Int.reduceNeg, Int.reduceAdd, Int.reduceSub, Int.reduceToNat, ↓reduceIte, reduceCtorEq, ↓ixShip, ↓ixCall, ↓ixLet, ↓ixRep, eq_self, decide_true, decide_false, if_true, if_false, not_true_eq_false, List.append_eq])
        repeat' (first | intro _ | refine And.intro ?_ ?_)
        all_goals try (first | omega | (simp only [List.length_map, List.length_cons, List.length_nil, List.length_append, Nat.zero_add]; omega) | exact nnC _ | exact nlC (by decide) _ | exact nbC rfl)
        rw [q1, Bool.false_or] at hbs
        (refine ⟨i + 1, by first | omega | (dsimp only; omega), by dsimp only; omega, ?_⟩; (simp only [Fits, fitsV, fitsO, fitsL, ↓upd, ↓lookV, ↓lookO, ↓lookL, Nat.reduceEqDiff, ↓reduceIte, ints, and_true, true_and, Option.some.injEq]); try simp [hbs])
      · have q1 : B = true := by rw [← Bool.not_eq_false]; assumption
        rw [q1, Bool.true_or] at hbs
        (refine ⟨i + 1, by first | omega | (dsimp only; omega), by dsimp only; omega, ?_⟩; (simp only [Fits, fitsV, fitsO, fitsL, ↓upd, ↓lookV, ↓lookO, ↓lookL, Nat.reduceEqDiff, ↓reduceIte, ints, and_true, true_and, Option.some.injEq]); try simp [hbs, q1])
      · have hie : i = L.length := by omega
        subst hie
        have q1 : B = true := by assumption
        rw [hB, if_pos q1] at hms
        (refine ⟨s + 1, by first | omega | (dsimp only; omega), by dsimp only; omega, ?_⟩; (simp only [Fits, fitsV, fitsO, fitsL, ↓upd, ↓lookV, ↓lookO, ↓lookL, Nat.reduceEqDiff, ↓reduceIte, ints, and_true, true_and, Option.some.injEq]); try simp [hms])
      · have hie : i = L.length := by omega
        subst hie
        have q1 : ¬ B = true := by assumption
        rw [hB, if_neg q1] at hms
        (refine ⟨s + 1, by first | omega | (dsimp only; omega), by dsimp only; omega, ?_⟩; (simp only [Fits, fitsV, fitsO, fitsL, ↓upd, ↓lookV, ↓lookO, ↓lookL, Nat.reduceEqDiff, ↓reduceIte, ints, and_true, true_and, Option.some.injEq]); try simp [hms])
    · rw [e0, show s = h.ships.length by omega]
end Go.Proofs.Ytnfmmhmfbipkjaa.Abs

/- Contracts: the reference's Before. -/
namespace Go.Proofs.Ytnfmmhmfbipkjaa.Abs
set_option linter.unusedSimpArgs false
set_option maxHeartbeats 4000000
set_option maxRecDepth 100000
open Go Go.RowKit Go.Proofs

/-- Does one day come before another one, if it comes at all? -/
def befB (x y : Int) : Bool := decide (0 ≤ x) && !untilB y x
def befRow (h : RHarb) (t : RTru) (a b x : Nat) : Nat → Int
  | 0 => 0
  | n + 1 => befRow h t a b x n + if befB (dayR h t.fleet x (h.letters[a]!).port) (dayR h t.fleet ((t.by_[b]!)[n]!).toNat (h.letters[b]!).port) = true then 1 else 0
def befIn (h : RHarb) (t : RTru) (a b : Nat) : Nat → Int
  | 0 => 0
  | n + 1 => befIn h t a b n + befRow h t a b ((t.by_[a]!)[n]!).toNat (t.by_[b]!).length
def befTo (h : RHarb) (l : List RTru) (a b : Nat) : Nat → Int
  | 0 => 0
  | n + 1 => befTo h l a b n + befIn h (l[n]!) a b ((l[n]!).by_[a]!).length
def pairsTo (l : List RTru) (a b : Nat) : Nat → Int
  | 0 => 0
  | n + 1 => pairsTo l a b n + (((l[n]!).by_[a]!).length : Int) * (((l[n]!).by_[b]!).length : Int)
theorem befRow_le (h : RHarb) (t : RTru) (a b x n : Nat) : 0 ≤ befRow h t a b x n ∧ befRow h t a b x n ≤ n := by
  induction n with
  | zero => simp [befRow]
  | succ n ih => unfold befRow; split <;> omega
theorem befIn_le (h : RHarb) (t : RTru) (a b n : Nat) : 0 ≤ befIn h t a b n ∧ befIn h t a b n ≤ n * ((t.by_[b]!).length : Int) := by
  induction n with
  | zero => simp [befIn]
  | succ n ih =>
    have := befRow_le h t a b ((t.by_[a]!)[n]!).toNat (t.by_[b]!).length
    unfold befIn
    rw [show ((n + 1 : Nat) : Int) * ((t.by_[b]!).length : Int) = n * ((t.by_[b]!).length : Int) + ((t.by_[b]!).length : Int) by rw [Int.natCast_add, Int.add_mul]; simp]
    omega
theorem befTo_le (h : RHarb) (l : List RTru) (a b n : Nat) : 0 ≤ befTo h l a b n ∧ befTo h l a b n ≤ pairsTo l a b n := by
  induction n with
  | zero => simp [befTo, pairsTo]
  | succ n ih =>
    have := befIn_le h (l[n]!) a b ((l[n]!).by_[a]!).length
    unfold befTo pairsTo; omega
theorem pairsTo_le (l : List RTru) (a b : Nat) (hl : ∀ t ∈ l, (t.by_[a]!).length ≤ 3 ∧ (t.by_[b]!).length ≤ 3) (n : Nat) (hn : n ≤ l.length) : 0 ≤ pairsTo l a b n ∧ pairsTo l a b n ≤ 9 * n := by
  induction n with
  | zero => simp [pairsTo]
  | succ n ih =>
    have h1 := ih (by omega)
    have h2 := hl (l[n]!) (by rw [getD_any (by omega)]; exact List.getElem_mem _)
    have h3 := Nat.mul_le_mul h2.1 h2.2
    unfold pairsTo
    rw [← Int.natCast_mul]
    omega

def befE (h : RHarb) (one other : Int) : Int :=
  if (if indexE (checkH h).2.2 one h.letters.length = 0 then indexE (checkH h).2.2 other h.letters.length else indexE (checkH h).2.2 one h.letters.length) = 0 ∧ one = other then 2 else (if indexE (checkH h).2.2 one h.letters.length = 0 then indexE (checkH h).2.2 other h.letters.length else indexE (checkH h).2.2 one h.letters.length)
def beforeR (h : RHarb) (one other : Int) : Int × Int :=
  if (knownR h (befE h one other)).2 = 0 then (settledR (befTo h (knownR h (befE h one other)).1 one.toNat other.toNat (knownR h (befE h one other)).1.length) (pairsTo (knownR h (befE h one other)).1 one.toNat other.toNat (knownR h (befE h one other)).1.length), 0) else (0, (knownR h (befE h one other)).2)
theorem befE_zero {h : RHarb} {one other : Int} (q : befE h one other = 0) : (checkH h).2.2 = 0 ∧ (0 ≤ one ∧ one ≤ (h.letters.length : Int) - 1) ∧ (0 ≤ other ∧ other ≤ (h.letters.length : Int) - 1) ∧ one ≠ other := by
  unfold befE at q
  have h1 := fun q2 : indexE (checkH h).2.2 one h.letters.length = 0 => indexE_zero q2
  have h2 := fun q2 : indexE (checkH h).2.2 other h.letters.length = 0 => indexE_zero q2
  generalize indexE (checkH h).2.2 one h.letters.length = I at *
  generalize indexE (checkH h).2.2 other h.letters.length = J at *
  by_cases q2 : I = 0
  · simp only [if_pos q2] at q
    by_cases q1 : J = 0 ∧ one = other
    · rw [if_pos q1] at q; exact absurd q (by decide)
    · rw [if_neg q1] at q
      exact ⟨(h1 q2).1, (h1 q2).2, (h2 q).2, fun e => q1 ⟨q, e⟩⟩
  · simp only [if_neg q2] at q
    by_cases q1 : I = 0 ∧ one = other
    · exact absurd q1.1 q2
    · rw [if_neg q1] at q; exact absurd q q2

theorem refbefore_c (h : RHarb) (hs : hnamesFit h) (one other : Int) :
    PCall Try.prog 29 [harbA h, .int .i64 one, .int .i64 other] (.tuple [.int .i64 (beforeR h one other).1, .int .i64 (beforeR h one other).2]) := by
  intro m
  have h1 := index_c h hs one h.letters.length (fun q => by have := (hok_check q).nl; omega)
  have h2 := index_c h hs other h.letters.length (fun q => by have := (hok_check q).nl; omega)
  have hhk := fun (q : befE h one other = 0) => hok_check (befE_zero q).1
  have hk := known_c h (befE h one other) hhk
  have e0 : beforeR h one other = if (knownR h (befE h one other)).2 = 0 then (settledR (befTo h (knownR h (befE h one other)).1 one.toNat other.toNat (knownR h (befE h one other)).1.length) (pairsTo (knownR h (befE h one other)).1 one.toNat other.toNat (knownR h (befE h one other)).1.length), 0) else (0, (knownR h (befE h one other)).2) := rfl
  have hkl := fun (q : (knownR h (befE h one other)).2 = 0) => by
    obtain ⟨q1, q2, q3⟩ := known_zero q
    have hh := hhk q1
    have hi := (befE_zero q1).2
    exact (⟨hh, by rw [q2]; exact truths_len hh [], fun t ht => by rw [q2] at ht; exact truths_tok hh ht, hi.1, hi.2.1⟩ : HOk h ∧ (knownR h (befE h one other)).1.length ≤ 4096 ∧ (∀ t ∈ (knownR h (befE h one other)).1, TOk h t) ∧ (0 ≤ one ∧ one ≤ (h.letters.length : Int) - 1) ∧ (0 ≤ other ∧ other ≤ (h.letters.length : Int) - 1))
  have hke := fun (q : (knownR h (befE h one other)).2 = 0) => (known_zero q).1
  have eE : befE h one other = if (if indexE (checkH h).2.2 one h.letters.length = 0 then indexE (checkH h).2.2 other h.letters.length else indexE (checkH h).2.2 one h.letters.length) = 0 ∧ one = other then 2 else (if indexE (checkH h).2.2 one h.letters.length = 0 then indexE (checkH h).2.2 other h.letters.length else indexE (checkH h).2.2 one h.letters.length) := rfl
  generalize hX : beforeR h one other = X at *
  generalize knownR h (befE h one other) = K at *
  generalize befE h one other = E at *
  generalize indexE (checkH h).2.2 one h.letters.length = I at *
  generalize indexE (checkH h).2.2 other h.letters.length = J at *
  clear hX hhk
  obtain ⟨L, e⟩ := K
  have hse : ∀ a b, PCall Try.prog 84 [.int .i64 a, .int .i64 b] (.int .i64 (settledR a b)) := fun a b => settled_c a b
  have hun := fun a b => until_c a b
  simp only [harbA, harbL, trusA, fatesA] at *
  (refine acall_len Try.call29 fun hlen => ?_; refine acall_intro (E := env fun _ => .imm) (envOk _) rfl Try.func29 rfl Try.call29 (by kernel_rfl) (by simp [Try.ntmps29]) ?_; simp only [Try.f29];  simp (maxSteps := 4000000) only [↓VP, VQ, ite_self, Nat.reduceEqDiff, Nat.reduceAdd, Nat.reduceSub, Nat.reduceMul, Nat.reduceLeDiff, Nat.reduceLT, Nat.reduceBEq, Int.reduceLE, Int.reduceLT, Int.reduceNeg, Int.reduceAdd, Int.reduceSub, Int.reduceToNat, ↓reduceIte, reduceCtorEq, ↓ixShip, ↓ixCall, ↓ixLet, ↓ixRep])
  repeat' (first | intro _ | refine And.intro ?_ ?_)
  ((refine ACall.pure (h1) ?_; try simp (maxSteps := 4000000) only [↓VP, VQ, ite_self, Nat.reduceEqDiff, Nat.reduceAdd, Nat.reduceSub, Nat.reduceMul, Nat.reduceLeDiff, Nat.reduceLT, Nat.reduceBEq, Int.reduceLE, Int.reduceLT, Int.reduceNeg, Int.reduceAdd, Int.reduceSub, Int.reduceToNat, ↓reduceIte, reduceCtorEq, ↓ixShip, ↓ixCall, ↓ixLet, ↓ixRep]); try simp (maxSteps := 4000000) only [↓VP, VQ, ite_self, Nat.reduceEqDiff, Nat.reduceAdd, Nat.reduceSub, Nat.reduceMul, Nat.reduceLeDiff, Nat.reduceLT, Nat.reduceBEq, Int.reduceLE, Int.reduceLT, Int.reduceNeg, Int.reduceAdd, Int.reduceSub, Int.reduceToNat, ↓reduceIte, reduceCtorEq, ↓ixShip, ↓ixCall, ↓ixLet, ↓ixRep, eq_self, decide_true, decide_false, if_true, if_false, not_true_eq_false, List.append_eq])
  repeat' (first | intro _ | refine And.intro ?_ ?_)
  all_goals try (first | omega | (simp only [List.length_map, List.length_cons, List.length_nil, List.length_append, Nat.zero_add]; omega) | exact nnC _ | exact nlC (by decide) _ | exact nbC rfl)
  · have q1 : I = 0 := by assumption
    simp only [if_pos q1] at eE
    ((refine ACall.pure (h2) ?_; try simp (maxSteps := 4000000) only [↓VP, VQ, ite_self, Nat.reduceEqDiff, Nat.reduceAdd, Nat.reduceSub, Nat.reduceMul, Nat.reduceLeDiff, Nat.reduceLT, Nat.reduceBEq, Int.reduceLE, Int.reduceLT, Int.reduceNeg, Int.reduceAdd, Int.reduceSub, Int.reduceToNat, ↓reduceIte, reduceCtorEq, ↓ixShip, ↓ixCall, ↓ixLet, ↓ixRep]); try simp (maxSteps := 4000000) only [↓VP, VQ, ite_self, Nat.reduceEqDiff, Nat.reduceAdd, Nat.reduceSub, Nat.reduceMul, Nat.reduceLeDiff, Nat.reduceLT, Nat.reduceBEq, Int.reduceLE, Int.reduceLT, Int.reduceNeg, Int.reduceAdd, Int.reduceSub, Int.reduceToNat, ↓reduceIte, reduceCtorEq, ↓ixShip, ↓ixCall, ↓ixLet, ↓ixRep, eq_self, decide_true, decide_false, if_true, if_false, not_true_eq_false, List.append_eq])
    repeat' (first | intro _ | refine And.intro ?_ ?_)
    all_goals try (first | omega | (simp only [List.length_map, List.length_cons, List.length_nil, List.length_append, Nat.zero_add]; omega) | exact nnC _ | exact nlC (by decide) _ | exact nbC rfl)
    · have q2 : J = 0 := by assumption
      have q3 : one = other := by assumption
      rw [if_pos ⟨q2, q3⟩] at eE
      subst eE
      ((refine ACall.pure (hk) ?_; try simp (maxSteps := 4000000) only [↓VP, VQ, ite_self, Nat.reduceEqDiff, Nat.reduceAdd, Nat.reduceSub, Nat.reduceMul, Nat.reduceLeDiff, Nat.reduceLT, Nat.reduceBEq, Int.reduceLE, Int.reduceLT, Int.reduceNeg, Int.reduceAdd, Int.reduceSub, Int.reduceToNat, ↓reduceIte, reduceCtorEq, ↓ixShip, ↓ixCall, ↓ixLet, ↓ixRep]); try simp (maxSteps := 4000000) only [↓VP, VQ, ite_self, Nat.reduceEqDiff, Nat.reduceAdd, Nat.reduceSub, Nat.reduceMul, Nat.reduceLeDiff, Nat.reduceLT, Nat.reduceBEq, Int.reduceLE, Int.reduceLT, Int.reduceNeg, Int.reduceAdd, Int.reduceSub, Int.reduceToNat, ↓reduceIte, reduceCtorEq, ↓ixShip, ↓ixCall, ↓ixLet, ↓ixRep, eq_self, decide_true, decide_false, if_true, if_false, not_true_eq_false, List.append_eq])
      repeat' (first | intro _ | refine And.intro ?_ ?_)
      all_goals try (first | omega | (simp only [List.length_map, List.length_cons, List.length_nil, List.length_append, Nat.zero_add]; omega) | exact nnC _ | exact nlC (by decide) _ | exact nbC rfl)
      rw [e0, if_neg (by omega)]
    · have q2 : J = 0 := by assumption
      have q3 : ¬ one = other := by assumption
      rw [if_neg (fun q => q3 q.2)] at eE
      subst eE
      ((refine ACall.pure (hk) ?_; try simp (maxSteps := 4000000) only [↓VP, VQ, ite_self, Nat.reduceEqDiff, Nat.reduceAdd, Nat.reduceSub, Nat.reduceMul, Nat.reduceLeDiff, Nat.reduceLT, Nat.reduceBEq, Int.reduceLE, Int.reduceLT, Int.reduceNeg, Int.reduceAdd, Int.reduceSub, Int.reduceToNat, ↓reduceIte, reduceCtorEq, ↓ixShip, ↓ixCall, ↓ixLet, ↓ixRep]); try simp (maxSteps := 4000000) only [↓VP, VQ, ite_self, Nat.reduceEqDiff, Nat.reduceAdd, Nat.reduceSub, Nat.reduceMul, Nat.reduceLeDiff, Nat.reduceLT, Nat.reduceBEq, Int.reduceLE, Int.reduceLT, Int.reduceNeg, Int.reduceAdd, Int.reduceSub, Int.reduceToNat, ↓reduceIte, reduceCtorEq, ↓ixShip, ↓ixCall, ↓ixLet, ↓ixRep, eq_self, decide_true, decide_false, if_true, if_false, not_true_eq_false, List.append_eq])
      repeat' (first | intro _ | refine And.intro ?_ ?_)
      all_goals try (first | omega | (simp only [List.length_map, List.length_cons, List.length_nil, List.length_append, Nat.zero_add]; omega) | exact nnC _ | exact nlC (by decide) _ | exact nbC rfl)
      · have q : ¬ e = 0 := by assumption
        rw [e0, if_neg q]
      · have q : e = 0 := by apply Decidable.byContradiction; assumption
        obtain ⟨hh, hL, hT, hla, hlb⟩ := hkl q
        rw [if_pos q] at e0
        obtain ⟨a, ha0⟩ := Int.eq_ofNat_of_zero_le hla.1
        subst ha0
        obtain ⟨b, hb0⟩ := Int.eq_ofNat_of_zero_le hlb.1
        subst hb0
        have hka : a < h.letters.length := by omega
        have hkb : b < h.letters.length := by omega
        rw [show ((a : Int)).toNat = a by simp, show ((b : Int)).toNat = b by simp] at e0
        have hal := pairsTo_le L a b (fun t ht => ⟨(hT t ht).len a hka, (hT t ht).len b hkb⟩)
        refine aloop (envOk _) (fun i : Nat => ⟨[(1, .v (.int .i64 a)), (2, .v (.int .i64 b)), (3, .v (.eptr [.int .i64 h.ports, .int .i64 h.lost, .slice 5 (h.ships.map shipA), .slice 3 (h.letters.map letA), .slice 4 (h.reports.map repA)])), (9, .v (.slice 2 (L.map truA))), (10, .v (.int .i64 (befTo h L a b i))), (11, .v (.int .i64 (pairsTo L a b i))), (12, .v (.int .i64 i))], [], [], m⟩)
          (fun i => i ≤ L.length) (fun i => L.length - i) 0 (fun _ => rfl) (by simp) (by (simp only [Fits, fitsV, fitsO, fitsL, ↓upd, ↓lookV, ↓lookO, ↓lookL, Nat.reduceEqDiff, ↓reduceIte, ints, and_true, true_and, Option.some.injEq]); simp [befTo, pairsTo]) ?_
        intro i hi
        have hal' := hal i hi
        have hcl' := befTo_le h L a b i
        have hcs : befTo h L a b (i + 1) = befTo h L a b i + befIn h (L[i]!) a b ((L[i]!).by_[a]!).length := rfl
        have has : pairsTo L a b (i + 1) = pairsTo L a b i + (((L[i]!).by_[a]!).length : Int) * (((L[i]!).by_[b]!).length : Int) := rfl
        simp (maxSteps := 4000000) only [↓VP, VQ, ite_self, Nat.reduceEqDiff, Nat.reduceAdd, Nat.reduceSub, Nat.reduceMul, Nat.reduceLeDiff, Nat.reduceLT, Nat.reduceBEq, Int.reduceLE, Int.reduceLT, Int.reduceNeg, Int.reduceAdd, Int.reduceSub, Int.reduceToNat, ↓reduceIte, reduceCtorEq, ↓ixShip, ↓ixCall, ↓ixLet, ↓ixRep]
        repeat' (first | intro _ | refine And.intro ?_ ?_)
        all_goals try (first | omega | (simp only [List.length_map, List.length_cons, List.length_nil, List.length_append, Nat.zero_add]; omega) | exact nnC _ | exact nlC (by decide) _ | exact nbC rfl)
        · have hilt : i < L.length := by omega
          have ht := hT (L[i]!) (by rw [getD_any hilt]; exact List.getElem_mem hilt)
          have hna : a < (L[i]!).by_.length := by rw [ht.n]; exact hka
          have hnb : b < (L[i]!).by_.length := by rw [ht.n]; exact hkb
          (refine adraw (by first | exact envOk _ | exact envCOk _ _ _) mixed [⟨false, false, 0⟩, ⟨false, false, 0⟩, ⟨false, false, 0⟩, ⟨false, false, 0⟩, ⟨false, false, 0⟩, ⟨false, false, 0⟩, ⟨false, false, 0⟩, ⟨false, false, 0⟩, ⟨false, false, 0⟩, ⟨false, false, 0⟩, ⟨false, false, 0⟩, ⟨false, false, 0⟩, ⟨false, false, 0⟩, ⟨false, false, 0⟩, ⟨false, false, 0⟩, ⟨false, false, 0⟩, ⟨false, false, 0⟩, ⟨false, false, 0⟩] (by kernel_rfl) ?_; show vcOpsD _ _ _ (_ :: _) _ _)
          simp (maxSteps := 4000000) only [↓VP, VQ, ite_self, Nat.reduceEqDiff, Nat.reduceAdd, Nat.reduceSub, Nat.reduceMul, Nat.reduceLeDiff, Nat.reduceLT, Nat.reduceBEq, Int.reduceLE, Int.reduceLT, Int.reduceNeg, Int.reduceAdd, Int.reduceSub, Int.reduceToNat, ↓reduceIte, reduceCtorEq, ↓ixShip, ↓ixCall, ↓ixLet, ↓ixRep, ↓ixTru, ↓ixInts]
          repeat' (first | intro _ | refine And.intro ?_ ?_)
          all_goals try (first | omega | (simp only [List.length_map, List.length_cons, List.length_nil, List.length_append, Nat.zero_add]; omega) | exact nnC _ | exact nlC (by decide) _ | exact nbC rfl)
          have ha3 := ht.len a hka
          have hb3 := ht.len b hkb
          have hsa := fun (j : Nat) (hj : j < ((L[i]!).by_[a]!).length) => ht.ship a hka (((L[i]!).by_[a]!)[j]!) (by rw [getD_any hj]; exact List.getElem_mem hj)
          have hsb := fun (j : Nat) (hj : j < ((L[i]!).by_[b]!).length) => ht.ship b hkb (((L[i]!).by_[b]!)[j]!) (by rw [getD_any hj]; exact List.getElem_mem hj)
          generalize hg : L[i]! = t at *
          have hlm := Nat.mul_le_mul ha3 hb3
          refine aloop (envOk _) (fun j : Nat => ⟨[(1, .v (.int .i64 a)), (2, .v (.int .i64 b)), (3, .v (.eptr [.int .i64 h.ports, .int .i64 h.lost, .slice 5 (h.ships.map shipA), .slice 3 (h.letters.map letA), .slice 4 (h.reports.map repA)])), (9, .v (.slice 2 (L.map truA))), (10, .v (.int .i64 (befTo h L a b i + befIn h t a b j))), (11, .v (.int .i64 (pairsTo L a b i + j * ((t.by_[b]!).length : Int)))), (12, .v (.int .i64 i)), (13, .v (.slice 1 ((t.by_[a]!).map (AV.int .i64)))), (14, .v (.slice 1 ((t.by_[b]!).map (AV.int .i64)))), (15, .v (.int .i64 j))], [], [], m⟩)
            (fun j => j ≤ (t.by_[a]!).length) (fun j => (t.by_[a]!).length - j) 0 (fun _ => rfl) (by simp) (by (simp only [Fits, fitsV, fitsO, fitsL, ↓upd, ↓lookV, ↓lookO, ↓lookL, Nat.reduceEqDiff, ↓reduceIte, ints, and_true, true_and, Option.some.injEq]); simp [befIn]) ?_
          intro j hj
          have hci := befIn_le h t a b j
          have hcn : befIn h t a b (j + 1) = befIn h t a b j + befRow h t a b ((t.by_[a]!)[j]!).toNat (t.by_[b]!).length := rfl
          have hjm := Nat.mul_le_mul hj hb3
          have hjs : ((j + 1 : Nat) : Int) * ((t.by_[b]!).length : Int) = j * ((t.by_[b]!).length : Int) + ((t.by_[b]!).length : Int) := by rw [Int.natCast_add, Int.add_mul]; simp
          simp (maxSteps := 4000000) only [↓VP, VQ, ite_self, Nat.reduceEqDiff, Nat.reduceAdd, Nat.reduceSub, Nat.reduceMul, Nat.reduceLeDiff, Nat.reduceLT, Nat.reduceBEq, Int.reduceLE, Int.reduceLT, Int.reduceNeg, Int.reduceAdd, Int.reduceSub, Int.reduceToNat, ↓reduceIte, reduceCtorEq, ↓ixShip, ↓ixCall, ↓ixLet, ↓ixRep]
          repeat' (first | intro _ | refine And.intro ?_ ?_)
          all_goals try (first | omega | (simp only [List.length_map, List.length_cons, List.length_nil, List.length_append, Nat.zero_add]; omega) | exact nnC _ | exact nlC (by decide) _ | exact nbC rfl)
          · have hjlt : j < (t.by_[a]!).length := by omega
            have hsj := hsa j hjlt
            have hfir := refday_c h hh t.fleet ((t.by_[a]!)[j]!).toNat (h.letters[a]!).port hsj.2 (by rw [ht.fok.n]; exact hsj.2) (ht.fok.late _ (by rw [ht.fok.n]; exact hsj.2))
            rw [Int.toNat_of_nonneg hsj.1] at hfir
            simp only [harbA, harbL, fatesA] at hfir
            refine aloop (envOk _) (fun n : Nat => ⟨[(1, .v (.int .i64 a)), (2, .v (.int .i64 b)), (3, .v (.eptr [.int .i64 h.ports, .int .i64 h.lost, .slice 5 (h.ships.map shipA), .slice 3 (h.letters.map letA), .slice 4 (h.reports.map repA)])), (9, .v (.slice 2 (L.map truA))), (10, .v (.int .i64 (befTo h L a b i + befIn h t a b j + befRow h t a b ((t.by_[a]!)[j]!).toNat n))), (11, .v (.int .i64 (pairsTo L a b i + j * ((t.by_[b]!).length : Int) + n))), (12, .v (.int .i64 i)), (13, .v (.slice 1 ((t.by_[a]!).map (AV.int .i64)))), (14, .v (.slice 1 ((t.by_[b]!).map (AV.int .i64)))), (15, .v (.int .i64 j)), (16, .v (.int .i64 n))], [], [], m⟩)
              (fun n => n ≤ (t.by_[b]!).length) (fun n => (t.by_[b]!).length - n) 0 (fun _ => rfl) (by simp) (by (simp only [Fits, fitsV, fitsO, fitsL, ↓upd, ↓lookV, ↓lookO, ↓lookL, Nat.reduceEqDiff, ↓reduceIte, ints, and_true, true_and, Option.some.injEq]); simp [befRow]) ?_
            intro n hn
            have hbr := befRow_le h t a b ((t.by_[a]!)[j]!).toNat n
            have hbn : befRow h t a b ((t.by_[a]!)[j]!).toNat (n + 1) = befRow h t a b ((t.by_[a]!)[j]!).toNat n + if befB (dayR h t.fleet ((t.by_[a]!)[j]!).toNat (h.letters[a]!).port) (dayR h t.fleet ((t.by_[b]!)[n]!).toNat (h.letters[b]!).port) = true then 1 else 0 := rfl
            simp (maxSteps := 4000000) only [↓VP, VQ, ite_self, Nat.reduceEqDiff, Nat.reduceAdd, Nat.reduceSub, Nat.reduceMul, Nat.reduceLeDiff, Nat.reduceLT, Nat.reduceBEq, Int.reduceLE, Int.reduceLT, Int.reduceNeg, Int.reduceAdd, Int.reduceSub, Int.reduceToNat, ↓reduceIte, reduceCtorEq, ↓ixShip, ↓ixCall, ↓ixLet, ↓ixRep]
            repeat' (first | intro _ | refine And.intro ?_ ?_)
            all_goals try (first | omega | (simp only [List.length_map, List.length_cons, List.length_nil, List.length_append, Nat.zero_add]; omega) | exact nnC _ | exact nlC (by decide) _ | exact nbC rfl)
            · have hnlt : n < (t.by_[b]!).length := by omega
              have hsn := hsb n hnlt
              have hsec := refday_c h hh t.fleet ((t.by_[b]!)[n]!).toNat (h.letters[b]!).port hsn.2 (by rw [ht.fok.n]; exact hsn.2) (ht.fok.late _ (by rw [ht.fok.n]; exact hsn.2))
              rw [Int.toNat_of_nonneg hsn.1] at hsec
              simp only [harbA, harbL, fatesA] at hsec
              generalize dayR h t.fleet ((t.by_[a]!)[j]!).toNat (h.letters[a]!).port = D1 at *
              generalize dayR h t.fleet ((t.by_[b]!)[n]!).toNat (h.letters[b]!).port = D2 at *
              have hun' := hun D2 D1
              (refine adraw (by first | exact envOk _ | exact envCOk _ _ _) mixed [⟨false, false, 0⟩, ⟨false, false, 0⟩, ⟨false, false, 0⟩, ⟨false, false, 0⟩, ⟨false, false, 0⟩, ⟨false, false, 0⟩, ⟨false, false, 0⟩, ⟨false, false, 0⟩, ⟨false, false, 0⟩, ⟨false, false, 0⟩, ⟨false, false, 0⟩, ⟨false, false, 0⟩, ⟨false, false, 0⟩, ⟨false, false, 0⟩, ⟨false, false, 0⟩, ⟨false, false, 0⟩, ⟨false, false, 0⟩, ⟨false, false, 0⟩] (by kernel_rfl) ?_; show vcOpsD _ _ _ (_ :: _) _ _)
              simp (maxSteps := 4000000) only [↓VP, VQ, ite_self, Nat.reduceEqDiff, Nat.reduceAdd, Nat.reduceSub, Nat.reduceMul, Nat.reduceLeDiff, Nat.reduceLT, Nat.reduceBEq, Int.reduceLE, Int.reduceLT, Int.reduceNeg, Int.reduceAdd, Int.reduceSub, Int.reduceToNat, ↓reduceIte, reduceCtorEq, ↓ixShip, ↓ixCall, ↓ixLet, ↓ixRep, ↓ixTru, ↓ixInts, ↓ixZ, hg]
              repeat' (first | intro _ | refine And.intro ?_ ?_)
              all_goals try (first | omega | (simp only [List.length_map, List.length_cons, List.length_nil, List.length_append, Nat.zero_add]; omega) | exact nnC _ | exact nlC (by decide) _ | exact nbC rfl)
              refine VPure.of hfir ?_
              simp (maxSteps := 4000000) only [↓VP, VQ, ite_self, Nat.reduceEqDiff, Nat.reduceAdd, Nat.reduceSub, Nat.reduceMul, Nat.reduceLeDiff, Nat.reduceLT, Nat.reduceBEq, Int.reduceLE, Int.reduceLT, Int.reduceNeg, Int.reduceAdd, Int.reduceSub, Int.reduceToNat, ↓reduceIte, reduceCtorEq, ↓ixShip, ↓ixCall, ↓ixLet, ↓ixRep]
              (refine adraw (by first | exact envOk _ | exact envCOk _ _ _) mixed [⟨false, false, 0⟩, ⟨false, false, 0⟩, ⟨false, false, 0⟩, ⟨false, false, 0⟩, ⟨false, false, 0⟩, ⟨false, false, 0⟩, ⟨false, false, 0⟩, ⟨false, false, 0⟩, ⟨false, false, 0⟩, ⟨false, false, 0⟩, ⟨false, false, 0⟩, ⟨false, false, 0⟩, ⟨false, false, 0⟩, ⟨false, false, 0⟩, ⟨false, false, 0⟩, ⟨false, false, 0⟩, ⟨false, false, 0⟩, ⟨false, false, 0⟩] (by kernel_rfl) ?_; show vcOpsD _ _ _ (_ :: _) _ _)
              simp (maxSteps := 4000000) only [↓VP, VQ, ite_self, Nat.reduceEqDiff, Nat.reduceAdd, Nat.reduceSub, Nat.reduceMul, Nat.reduceLeDiff, Nat.reduceLT, Nat.reduceBEq, Int.reduceLE, Int.reduceLT, Int.reduceNeg, Int.reduceAdd, Int.reduceSub, Int.reduceToNat, ↓reduceIte, reduceCtorEq, ↓ixShip, ↓ixCall, ↓ixLet, ↓ixRep, ↓ixTru, ↓ixInts, ↓ixZ, hg]
              repeat' (first | intro _ | refine And.intro ?_ ?_)
              all_goals try (first | omega | (simp only [List.length_map, List.length_cons, List.length_nil, List.length_append, Nat.zero_add]; omega) | exact nnC _ | exact nlC (by decide) _ | exact nbC rfl)
              refine VPure.of hsec ?_
              simp (maxSteps := 4000000) only [↓VP, VQ, ite_self, Nat.reduceEqDiff, Nat.reduceAdd, Nat.reduceSub, Nat.reduceMul, Nat.reduceLeDiff, Nat.reduceLT, Nat.reduceBEq, Int.reduceLE, Int.reduceLT, Int.reduceNeg, Int.reduceAdd, Int.reduceSub, Int.reduceToNat, ↓reduceIte, reduceCtorEq, ↓ixShip, ↓ixCall, ↓ixLet, ↓ixRep]
              repeat' (first | intro _ | refine And.intro ?_ ?_)
              all_goals try (first | omega | (simp only [List.length_map, List.length_cons, List.length_nil, List.length_append, Nat.zero_add]; omega) | exact nnC _ | exact nlC (by decide) _ | exact nbC rfl)
              · have q4 : 0 ≤ D1 := by assumption
                have hbb : befB D1 D2 = !untilB D2 D1 := by unfold befB; rw [decide_eq_true q4]; rfl
                rw [hbb] at hbn
                ((refine ACall.pure (hun') ?_; try simp (maxSteps := 4000000) only [↓VP, VQ, ite_self, Nat.reduceEqDiff, Nat.reduceAdd, Nat.reduceSub, Nat.reduceMul, Nat.reduceLeDiff, Nat.reduceLT, Nat.reduceBEq, Int.reduceLE, Int.reduceLT, Int.reduceNeg, Int.reduceAdd, Int.reduceSub, Int.reduceToNat, ↓reduceIte, reduceCtorEq, ↓ixShip, ↓ixCall, ↓ixLet, ↓ixRep]); try simp (maxSteps := 4000000) only [↓VP, VQ, ite_self, Nat.reduceEqDiff, Nat.reduceAdd, Nat.reduceSub, Nat.reduceMul, Nat.reduceLeDiff, Nat.reduceLT, Nat.reduceBEq, Int.reduceLE, Int.reduceLT, Int.reduceNeg, Int.reduceAdd, Int.reduceSub, Int.reduceToNat, ↓reduceIte, reduceCtorEq, ↓ixShip, ↓ixCall, ↓ixLet, ↓ixRep, eq_self, decide_true, decide_false, if_true, if_false, not_true_eq_false, List.append_eq])
                repeat' (first | intro _ | refine And.intro ?_ ?_)
                all_goals try (first | omega | (simp only [List.length_map, List.length_cons, List.length_nil, List.length_append, Nat.zero_add]; omega) | exact nnC _ | exact nlC (by decide) _ | exact nbC rfl)
                · have q5 : untilB D2 D1 = false := by first | assumption | (rw [← Bool.not_eq_true]; assumption)
                  rw [q5, Bool.not_false, if_pos rfl] at hbn
                  (refine ⟨n + 1, by first | omega | (dsimp only; omega), by dsimp only; omega, ?_⟩; (simp only [Fits, fitsV, fitsO, fitsL, ↓upd, ↓lookV, ↓lookO, ↓lookL, Nat.reduceEqDiff, ↓reduceIte, ints, and_true, true_and, Option.some.injEq]); try simp [hbn, Int.add_assoc, -List.getElem!_eq_getElem?_getD])
                · have q5 : untilB D2 D1 = true := by first | assumption | (rw [← Bool.not_eq_false]; assumption)
                  rw [q5, Bool.not_true, if_neg (by decide)] at hbn
                  (refine ⟨n + 1, by first | omega | (dsimp only; omega), by dsimp only; omega, ?_⟩; (simp only [Fits, fitsV, fitsO, fitsL, ↓upd, ↓lookV, ↓lookO, ↓lookL, Nat.reduceEqDiff, ↓reduceIte, ints, and_true, true_and, Option.some.injEq]); try simp [hbn, Int.add_assoc, -List.getElem!_eq_getElem?_getD])
              · have q4 : ¬ 0 ≤ D1 := by assumption
                have hbb : befB D1 D2 = false := by unfold befB; rw [decide_eq_false q4]; rfl
                rw [hbb, if_neg (by decide)] at hbn
                (refine ⟨n + 1, by first | omega | (dsimp only; omega), by dsimp only; omega, ?_⟩; (simp only [Fits, fitsV, fitsO, fitsL, ↓upd, ↓lookV, ↓lookO, ↓lookL, Nat.reduceEqDiff, ↓reduceIte, ints, and_true, true_and, Option.some.injEq]); try simp [hbn, Int.add_assoc, -List.getElem!_eq_getElem?_getD])
            · have hne : n = (t.by_[b]!).length := by omega
              subst hne
              (refine ⟨j + 1, by first | omega | (dsimp only; omega), by dsimp only; omega, ?_⟩; (simp only [Fits, fitsV, fitsO, fitsL, ↓upd, ↓lookV, ↓lookO, ↓lookL, Nat.reduceEqDiff, ↓reduceIte, ints, and_true, true_and, Option.some.injEq]); try simp [hcn, Int.add_mul, Int.add_assoc, -List.getElem!_eq_getElem?_getD])
          · have hje : j = (t.by_[a]!).length := by omega
            subst hje
            (refine ⟨i + 1, by first | omega | (dsimp only; omega), by dsimp only; omega, ?_⟩; (simp only [Fits, fitsV, fitsO, fitsL, ↓upd, ↓lookV, ↓lookO, ↓lookL, Nat.reduceEqDiff, ↓reduceIte, ints, and_true, true_and, Option.some.injEq]); try simp [hcs, has, -List.getElem!_eq_getElem?_getD])
        · have hie : i = L.length := by omega
          subst hie
          have hse' := hse (befTo h L a b L.length) (pairsTo L a b L.length)
          ((refine ACall.pure (hse') ?_; try simp (maxSteps := 4000000) only [↓VP, VQ, ite_self, Nat.reduceEqDiff, Nat.reduceAdd, Nat.reduceSub, Nat.reduceMul, Nat.reduceLeDiff, Nat.reduceLT, Nat.reduceBEq, Int.reduceLE, Int.reduceLT, Int.reduceNeg, Int.reduceAdd, Int.reduceSub, Int.reduceToNat, ↓reduceIte, reduceCtorEq, ↓ixShip, ↓ixCall, ↓ixLet, ↓ixRep]); try simp (maxSteps := 4000000) only [↓VP, VQ, ite_self, Nat.reduceEqDiff, Nat.reduceAdd, Nat.reduceSub, Nat.reduceMul, Nat.reduceLeDiff, Nat.reduceLT, Nat.reduceBEq, Int.reduceLE, Int.reduceLT, Int.reduceNeg, Int.reduceAdd, Int.reduceSub, Int.reduceToNat, ↓reduceIte, reduceCtorEq, ↓ixShip, ↓ixCall, ↓ixLet, ↓ixRep, eq_self, decide_true, decide_false, if_true, if_false, not_true_eq_false, List.append_eq])
          rw [e0]
    · have q2 : ¬ J = 0 := by assumption
      rw [if_neg (fun q => q2 q.1)] at eE
      subst eE
      ((refine ACall.pure (hk) ?_; try simp (maxSteps := 4000000) only [↓VP, VQ, ite_self, Nat.reduceEqDiff, Nat.reduceAdd, Nat.reduceSub, Nat.reduceMul, Nat.reduceLeDiff, Nat.reduceLT, Nat.reduceBEq, Int.reduceLE, Int.reduceLT, Int.reduceNeg, Int.reduceAdd, Int.reduceSub, Int.reduceToNat, ↓reduceIte, reduceCtorEq, ↓ixShip, ↓ixCall, ↓ixLet, ↓ixRep]); try simp (maxSteps := 4000000) only [↓VP, VQ, ite_self, Nat.reduceEqDiff, Nat.reduceAdd, Nat.reduceSub, Nat.reduceMul, Nat.reduceLeDiff, Nat.reduceLT, Nat.reduceBEq, Int.reduceLE, Int.reduceLT, Int.reduceNeg, Int.reduceAdd, Int.reduceSub, Int.reduceToNat, ↓reduceIte, reduceCtorEq, ↓ixShip, ↓ixCall, ↓ixLet, ↓ixRep, eq_self, decide_true, decide_false, if_true, if_false, not_true_eq_false, List.append_eq])
      repeat' (first | intro _ | refine And.intro ?_ ?_)
      all_goals try (first | omega | (simp only [List.length_map, List.length_cons, List.length_nil, List.length_append, Nat.zero_add]; omega) | exact nnC _ | exact nlC (by decide) _ | exact nbC rfl)
      rw [e0, if_neg (by omega)]
  · have q1 : ¬ I = 0 := by assumption
    simp only [if_neg q1] at eE
    rw [if_neg (fun q => q1 q.1)] at eE
    subst eE
    ((refine ACall.pure (hk) ?_; try simp (maxSteps := 4000000) only [↓VP, VQ, ite_self, Nat.reduceEqDiff, Nat.reduceAdd, Nat.reduceSub, Nat.reduceMul, Nat.reduceLeDiff, Nat.reduceLT, Nat.reduceBEq, Int.reduceLE, Int.reduceLT, Int.reduceNeg, Int.reduceAdd, Int.reduceSub, Int.reduceToNat, ↓reduceIte, reduceCtorEq, ↓ixShip, ↓ixCall, ↓ixLet, ↓ixRep]); try simp (maxSteps := 4000000) only [↓VP, VQ, ite_self, Nat.reduceEqDiff, Nat.reduceAdd, Nat.reduceSub, Nat.reduceMul, Nat.reduceLeDiff, Nat.reduceLT, Nat.reduceBEq, Int.reduceLE, Int.reduceLT, Int.reduceNeg, Int.reduceAdd, Int.reduceSub, Int.reduceToNat, ↓reduceIte, reduceCtorEq, ↓ixShip, ↓ixCall, ↓ixLet, ↓ixRep, eq_self, decide_true, decide_false, if_true, if_false, not_true_eq_false, List.append_eq])
    repeat' (first | intro _ | refine And.intro ?_ ?_)
    all_goals try (first | omega | (simp only [List.length_map, List.length_cons, List.length_nil, List.length_append, Nat.zero_add]; omega) | exact nnC _ | exact nlC (by decide) _ | exact nbC rfl)
    rw [e0, if_neg (by omega)]
end Go.Proofs.Ytnfmmhmfbipkjaa.Abs

/- Contracts: the reference's But, Send. -/
namespace Go.Proofs.Ytnfmmhmfbipkjaa.Abs
set_option linter.unusedSimpArgs false
set_option maxHeartbeats 4000000
set_option maxRecDepth 100000
open Go Go.RowKit Go.Proofs

/-- A harbour without some reports. -/
def butTo (h : RHarb) (but : List Int) (n : Nat) : List RRep := ((List.range n).filter fun (i : Nat) => decide ((i : Int) ∉ but)).map fun (i : Nat) => h.reports[i]!
def butH (h : RHarb) (but : List Int) : RHarb := { h with reports := butTo h but h.reports.length }
theorem butTo_succ (h : RHarb) (but : List Int) (n : Nat) : butTo h but (n + 1) = if (n : Int) ∈ but then butTo h but n else butTo h but n ++ [h.reports[n]!] := by
  unfold butTo
  rw [List.range_succ, List.filter_append, List.map_append]
  by_cases q : (n : Int) ∈ but <;> simp [q]
theorem butTo_length (h : RHarb) (but : List Int) (n : Nat) : (butTo h but n).length ≤ n := by
  unfold butTo; rw [List.length_map]; exact Nat.le_trans (List.length_filter_le _ _) (by simp)

theorem but_c (h : RHarb) (hr : h.reports.length ≤ 1000000) (but : List Int) : PCall Try.prog 43 [harbA h, ints but] (harbA (butH h but)) := by
  intro m
  have hhas := fun (i : Nat) => has_c but (i : Int)
  have e0 : (butH h but).reports = butTo h but h.reports.length := rfl
  simp only [harbA, harbL, ints] at *
  (refine acall_intro (E := envC (modeAt [2, 4] []) false []) (envCOk _ _ _) rfl Try.func43 rfl Try.call43 (by kernel_rfl) (by simp [Try.ntmps43]) ?_; simp only [Try.f43];  simp (maxSteps := 4000000) only [↓VP, VQ, ite_self, Nat.reduceEqDiff, Nat.reduceAdd, Nat.reduceSub, Nat.reduceMul, Nat.reduceLeDiff, Nat.reduceLT, Nat.reduceBEq, Int.reduceLE, Int.reduceLT, Int.reduceNeg, Int.reduceAdd, Int.reduceSub, Int.reduceToNat, ↓reduceIte, reduceCtorEq, ↓ixShip, ↓ixCall, ↓ixLet, ↓ixRep])
  repeat' (first | intro _ | refine And.intro ?_ ?_)
  all_goals try (first | omega | (simp only [List.length_map, List.length_cons, List.length_nil, List.length_append, Nat.zero_add]; omega) | exact nnC _ | exact nlC (by decide) _ | exact nbC rfl)
  refine aloop (envCOk _ _ _) (fun i : Nat => ⟨[(1, .v (.slice 1 (but.map (AV.int .i64)))), (2, .loc 2 0), (4, .loc 4 0), (5, .v (.slice 4 ((butTo h but i).map repA))), (6, .v (.int .i64 i))], [5], [(2, [.int .i64 h.ports, .int .i64 h.lost, .slice 5 (h.ships.map shipA), .slice 3 (h.letters.map letA), .slice 4 (h.reports.map repA)]), (4, [.int .i64 0, .int .i64 0, .slice 5 [], .slice 3 [], .slice 4 []])], m⟩)
    (fun i => i ≤ h.reports.length) (fun i => h.reports.length - i) 0 (fun _ => rfl) (by simp) (by (simp only [Fits, fitsV, fitsO, fitsL, ↓upd, ↓lookV, ↓lookO, ↓lookL, Nat.reduceEqDiff, ↓reduceIte, ints, and_true, true_and, Option.some.injEq]); simp [butTo]) ?_
  intro i hi
  have hbs := butTo_succ h but i
  have hbl := butTo_length h but i
  have hhas' := hhas i
  simp (maxSteps := 4000000) only [↓VP, VQ, ite_self, Nat.reduceEqDiff, Nat.reduceAdd, Nat.reduceSub, Nat.reduceMul, Nat.reduceLeDiff, Nat.reduceLT, Nat.reduceBEq, Int.reduceLE, Int.reduceLT, Int.reduceNeg, Int.reduceAdd, Int.reduceSub, Int.reduceToNat, ↓reduceIte, reduceCtorEq, ↓ixShip, ↓ixCall, ↓ixLet, ↓ixRep]
  repeat' (first | intro _ | refine And.intro ?_ ?_)
  all_goals try (first | omega | (simp only [List.length_map, List.length_cons, List.length_nil, List.length_append, Nat.zero_add]; omega) | exact nnC _ | exact nlC (by decide) _ | exact nbC rfl)
  · ((refine ACall.pure (hhas') ?_; try simp (maxSteps := 4000000) only [↓VP, VQ, ite_self, Nat.reduceEqDiff, Nat.reduceAdd, Nat.reduceSub, Nat.reduceMul, Nat.reduceLeDiff, Nat.reduceLT, Nat.reduceBEq, Int.reduceLE, Int.reduceLT, Int.reduceNeg, Int.reduceAdd, Int.reduceSub, Int.reduceToNat, ↓reduceIte, reduceCtorEq, ↓ixShip, ↓ixCall, ↓ixLet, ↓ixRep]); try simp (maxSteps := 4000000) only [↓VP, VQ, ite_self, Nat.reduceEqDiff, Nat.reduceAdd, Nat.reduceSub, Nat.reduceMul, Nat.reduceLeDiff, Nat.reduceLT, Nat.reduceBEq, Int.reduceLE, Int.reduceLT, Int.reduceNeg, Int.reduceAdd, Int.reduceSub, Int.reduceToNat, ↓reduceIte, reduceCtorEq, ↓ixShip, ↓ixCall, ↓ixLet, ↓ixRep, eq_self, decide_true, decide_false, if_true, if_false, not_true_eq_false, List.append_eq])
    repeat' (first | intro _ | refine And.intro ?_ ?_)
    all_goals try (first | omega | (simp only [List.length_map, List.length_cons, List.length_nil, List.length_append, Nat.zero_add]; omega) | exact nnC _ | exact nlC (by decide) _ | exact nbC rfl)
    · have q : ¬ (i : Int) ∈ but := by assumption
      rw [if_neg q] at hbs
      (refine ⟨i + 1, by first | omega | (dsimp only; omega), by dsimp only; omega, ?_⟩; (simp only [Fits, fitsV, fitsO, fitsL, ↓upd, ↓lookV, ↓lookO, ↓lookL, Nat.reduceEqDiff, ↓reduceIte, ints, and_true, true_and, Option.some.injEq]); try simp [hbs, repA, -List.getElem!_eq_getElem?_getD])
    · have q : (i : Int) ∈ but := by first | assumption | (apply Decidable.byContradiction; assumption)
      rw [if_pos q] at hbs
      (refine ⟨i + 1, by first | omega | (dsimp only; omega), by dsimp only; omega, ?_⟩; (simp only [Fits, fitsV, fitsO, fitsL, ↓upd, ↓lookV, ↓lookO, ↓lookL, Nat.reduceEqDiff, ↓reduceIte, ints, and_true, true_and, Option.some.injEq]); try simp [hbs])
  · have hie : i = h.reports.length := by omega
    subst hie
    rw [e0]
    rfl

def sendOk (h : RHarb) (l : List RTru) (port day : Int) (b : Int × Int) (s : Nat) : Bool :=
  takesB (h.ships[s]!) port day && (decide ((calledTo h l s port l.length).2 = (l.length : Int)) && (decide (b.1 < 0) || decide ((calledTo h l s port l.length).1.2 < b.2)))
def sendTo (h : RHarb) (l : List RTru) (port day : Int) : Nat → Int × Int
  | 0 => (-1, 0)
  | s + 1 => if sendOk h l port day (sendTo h l port day s) s = true then ((s : Int), (calledTo h l s port l.length).1.2) else sendTo h l port day s
theorem sendTo_le (h : RHarb) (l : List RTru) (port day : Int) (n : Nat) : -1 ≤ (sendTo h l port day n).1 ∧ (sendTo h l port day n).1 < n := by
  induction n with
  | zero => simp [sendTo]
  | succ n ih => unfold sendTo; split <;> (try dsimp only) <;> omega
def sendR (h : RHarb) (port day : Int) : Int × Int × Int :=
  if (knownR h (dayE day (indexE (checkH h).2.2 port h.ports))).2 = 0 then (if (sendTo h (knownR h (dayE day (indexE (checkH h).2.2 port h.ports))).1 port day h.ships.length).1 < 0 then (0, 0, 9) else ((sendTo h (knownR h (dayE day (indexE (checkH h).2.2 port h.ports))).1 port day h.ships.length).1, (sendTo h (knownR h (dayE day (indexE (checkH h).2.2 port h.ports))).1 port day h.ships.length).2, 0)) else (0, 0, (knownR h (dayE day (indexE (checkH h).2.2 port h.ports))).2)

theorem refsend_c (h : RHarb) (hs : hnamesFit h) (port day : Int) :
    PCall Try.prog 33 [harbA h, .int .i64 port, .int .i64 day] (.tuple [.int .i64 (sendR h port day).1, .int .i64 (sendR h port day).2.1, .int .i64 (sendR h port day).2.2]) := by
  intro m
  have h1 := index_c h hs port h.ports (fun q => by have := (hok_check q).p; omega)
  have h2 := dayOf_c day (indexE (checkH h).2.2 port h.ports)
  have hhk := fun (q : dayE day (indexE (checkH h).2.2 port h.ports) = 0) => hok_check (indexE_zero (dayE_zero q).1).1
  have hk := known_c h (dayE day (indexE (checkH h).2.2 port h.ports)) hhk
  have e0 : sendR h port day = if (knownR h (dayE day (indexE (checkH h).2.2 port h.ports))).2 = 0 then (if (sendTo h (knownR h (dayE day (indexE (checkH h).2.2 port h.ports))).1 port day h.ships.length).1 < 0 then (0, 0, 9) else ((sendTo h (knownR h (dayE day (indexE (checkH h).2.2 port h.ports))).1 port day h.ships.length).1, (sendTo h (knownR h (dayE day (indexE (checkH h).2.2 port h.ports))).1 port day h.ships.length).2, 0)) else (0, 0, (knownR h (dayE day (indexE (checkH h).2.2 port h.ports))).2) := rfl
  have hkl := fun (q : (knownR h (dayE day (indexE (checkH h).2.2 port h.ports))).2 = 0) => by
    obtain ⟨q1, q2, q3⟩ := known_zero q
    have hh := hhk q1
    exact (⟨hh, by rw [q2]; exact truths_len hh [], fun t ht => by rw [q2] at ht; exact truths_tok hh ht⟩ : HOk h ∧ (knownR h (dayE day (indexE (checkH h).2.2 port h.ports))).1.length ≤ 4096 ∧ (∀ t ∈ (knownR h (dayE day (indexE (checkH h).2.2 port h.ports))).1, TOk h t))
  generalize hX : sendR h port day = X at *
  generalize knownR h (dayE day (indexE (checkH h).2.2 port h.ports)) = K at *
  generalize dayE day (indexE (checkH h).2.2 port h.ports) = E at *
  generalize indexE (checkH h).2.2 port h.ports = I at *
  clear hX hhk
  obtain ⟨L, e⟩ := K
  have htk := fun (s : Nat) => reftakes_c (h.ships[s]!) port day
  have hcd := fun (hh : HOk h) (hT : ∀ t ∈ L, TOk h t) (s : Nat) (hsl : s < h.ships.length) => called_c h hh L (fun t ht => (hT t ht).fok) s port hsl
  simp only [harbA, harbL, trusA, fatesA, shipA, shipL] at *
  (refine acall_intro (E := envC (modeAt [14] []) false []) (envCOk _ _ _) rfl Try.func33 rfl Try.call33 (by kernel_rfl) (by simp [Try.ntmps33]) ?_; simp only [Try.f33];  simp (maxSteps := 4000000) only [↓VP, VQ, ite_self, Nat.reduceEqDiff, Nat.reduceAdd, Nat.reduceSub, Nat.reduceMul, Nat.reduceLeDiff, Nat.reduceLT, Nat.reduceBEq, Int.reduceLE, Int.reduceLT, Int.reduceNeg, Int.reduceAdd, Int.reduceSub, Int.reduceToNat, ↓reduceIte, reduceCtorEq, ↓ixShip, ↓ixCall, ↓ixLet, ↓ixRep])
  (refine adraw (by first | exact envOk _ | exact envCOk _ _ _) mixed [⟨false, false, 0⟩, ⟨false, false, 0⟩, ⟨false, false, 0⟩, ⟨false, false, 0⟩, ⟨false, false, 0⟩, ⟨false, false, 0⟩, ⟨false, false, 0⟩, ⟨false, false, 0⟩, ⟨false, false, 0⟩, ⟨false, false, 0⟩, ⟨false, false, 0⟩, ⟨false, false, 0⟩, ⟨false, false, 0⟩, ⟨false, false, 0⟩] (by kernel_rfl) ?_; show vcOpsD _ _ _ (_ :: _) _ _)
  simp (maxSteps := 4000000) only [↓VP, VQ, ite_self, Nat.reduceEqDiff, Nat.reduceAdd, Nat.reduceSub, Nat.reduceMul, Nat.reduceLeDiff, Nat.reduceLT, Nat.reduceBEq, Int.reduceLE, Int.reduceLT, Int.reduceNeg, Int.reduceAdd, Int.reduceSub, Int.reduceToNat, ↓reduceIte, reduceCtorEq, ↓ixShip, ↓ixCall, ↓ixLet, ↓ixRep]
  repeat' (first | intro _ | refine And.intro ?_ ?_)
  refine VPure.of h1 ?_
  simp (maxSteps := 4000000) only [↓VP, VQ, ite_self, Nat.reduceEqDiff, Nat.reduceAdd, Nat.reduceSub, Nat.reduceMul, Nat.reduceLeDiff, Nat.reduceLT, Nat.reduceBEq, Int.reduceLE, Int.reduceLT, Int.reduceNeg, Int.reduceAdd, Int.reduceSub, Int.reduceToNat, ↓reduceIte, reduceCtorEq, ↓ixShip, ↓ixCall, ↓ixLet, ↓ixRep]
  refine VPure.of h2 ?_
  simp (maxSteps := 4000000) only [↓VP, VQ, ite_self, Nat.reduceEqDiff, Nat.reduceAdd, Nat.reduceSub, Nat.reduceMul, Nat.reduceLeDiff, Nat.reduceLT, Nat.reduceBEq, Int.reduceLE, Int.reduceLT, Int.reduceNeg, Int.reduceAdd, Int.reduceSub, Int.reduceToNat, ↓reduceIte, reduceCtorEq, ↓ixShip, ↓ixCall, ↓ixLet, ↓ixRep]
  refine VPure.of hk ?_
  simp (maxSteps := 4000000) only [↓VP, VQ, ite_self, Nat.reduceEqDiff, Nat.reduceAdd, Nat.reduceSub, Nat.reduceMul, Nat.reduceLeDiff, Nat.reduceLT, Nat.reduceBEq, Int.reduceLE, Int.reduceLT, Int.reduceNeg, Int.reduceAdd, Int.reduceSub, Int.reduceToNat, ↓reduceIte, reduceCtorEq, ↓ixShip, ↓ixCall, ↓ixLet, ↓ixRep]
  repeat' (first | intro _ | refine And.intro ?_ ?_)
  all_goals try (first | omega | (simp only [List.length_map, List.length_cons, List.length_nil, List.length_append, Nat.zero_add]; omega) | exact nnC _ | exact nlC (by decide) _ | exact nbC rfl)
  · have q : ¬ e = 0 := by assumption
    rw [e0, if_neg q]
  · have q : e = 0 := by apply Decidable.byContradiction; assumption
    obtain ⟨hh, hL, hT⟩ := hkl q
    have hcd' := hcd hh hT
    have h3 := hh.n
    rw [if_pos q] at e0
    refine aloop (envCOk _ _ _) (fun s : Nat => ⟨[(1, .v (.int .i64 port)), (2, .v (.int .i64 day)), (3, .v (.eptr [.int .i64 h.ports, .int .i64 h.lost, .slice 5 (h.ships.map shipA), .slice 3 (h.letters.map letA), .slice 4 (h.reports.map repA)])), (9, .v (.slice 2 (L.map truA))), (11, .v (.int .i64 (sendTo h L port day s).1)), (12, .v (.int .i64 (sendTo h L port day s).2)), (13, .v (.int .i64 s))], [], [], m⟩)
      (fun s => s ≤ h.ships.length) (fun s => h.ships.length - s) 0 (fun _ => rfl) (by simp) (by (simp only [Fits, fitsV, fitsO, fitsL, ↓upd, ↓lookV, ↓lookO, ↓lookL, Nat.reduceEqDiff, ↓reduceIte, ints, and_true, true_and, Option.some.injEq]); simp [sendTo]) ?_
    intro s hsl
    have hss : sendTo h L port day (s + 1) = if sendOk h L port day (sendTo h L port day s) s = true then ((s : Int), (calledTo h L s port L.length).1.2) else sendTo h L port day s := rfl
    have hsk : sendOk h L port day (sendTo h L port day s) s = (takesB (h.ships[s]!) port day && (decide ((calledTo h L s port L.length).2 = (L.length : Int)) && (decide ((sendTo h L port day s).1 < 0) || decide ((calledTo h L s port L.length).1.2 < (sendTo h L port day s).2)))) := rfl
    have hsb := sendTo_le h L port day s
    have hc := hcd' s
    have htk' := htk s
    generalize hS : sendTo h L port day s = S at *
    generalize hC : calledTo h L s port L.length = C at *
    generalize hTk : takesB (h.ships[s]!) port day = T at *
    simp (maxSteps := 4000000) only [↓VP, VQ, ite_self, Nat.reduceEqDiff, Nat.reduceAdd, Nat.reduceSub, Nat.reduceMul, Nat.reduceLeDiff, Nat.reduceLT, Nat.reduceBEq, Int.reduceLE, Int.reduceLT, Int.reduceNeg, Int.reduceAdd, Int.reduceSub, Int.reduceToNat, ↓reduceIte, reduceCtorEq, ↓ixShip, ↓ixCall, ↓ixLet, ↓ixRep]
    repeat' (first | intro _ | refine And.intro ?_ ?_)
    all_goals try (first | omega | (simp only [List.length_map, List.length_cons, List.length_nil, List.length_append, Nat.zero_add]; omega) | exact nnC _ | exact nlC (by decide) _ | exact nbC rfl)
    · have hslt : s < h.ships.length := by omega
      have hc2 := hc hslt
      ((refine ACall.pure (hc2) ?_; try simp (maxSteps := 4000000) only [↓VP, VQ, ite_self, Nat.reduceEqDiff, Nat.reduceAdd, Nat.reduceSub, Nat.reduceMul, Nat.reduceLeDiff, Nat.reduceLT, Nat.reduceBEq, Int.reduceLE, Int.reduceLT, Int.reduceNeg, Int.reduceAdd, Int.reduceSub, Int.reduceToNat, ↓reduceIte, reduceCtorEq, ↓ixShip, ↓ixCall, ↓ixLet, ↓ixRep]); try simp (maxSteps := 4000000) only [↓VP, VQ, ite_self, Nat.reduceEqDiff, Nat.reduceAdd, Nat.reduceSub, Nat.reduceMul, Nat.reduceLeDiff, Nat.reduceLT, Nat.reduceBEq, Int.reduceLE, Int.reduceLT, Int.reduceNeg, Int.reduceAdd, Int.reduceSub, Int.reduceToNat, ↓reduceIte, reduceCtorEq, ↓ixShip, ↓ixCall, ↓ixLet, ↓ixRep, eq_self, decide_true, decide_false, if_true, if_false, not_true_eq_false, List.append_eq])
      repeat' (first | intro _ | refine And.intro ?_ ?_)
      all_goals try (first | omega | (simp only [List.length_map, List.length_cons, List.length_nil, List.length_append, Nat.zero_add]; omega) | exact nnC _ | exact nlC (by decide) _ | exact nbC rfl)
      ((refine ACall.pure (htk') ?_; try simp (maxSteps := 4000000) only [↓VP, VQ, ite_self, Nat.reduceEqDiff, Nat.reduceAdd, Nat.reduceSub, Nat.reduceMul, Nat.reduceLeDiff, Nat.reduceLT, Nat.reduceBEq, Int.reduceLE, Int.reduceLT, Int.reduceNeg, Int.reduceAdd, Int.reduceSub, Int.reduceToNat, ↓reduceIte, reduceCtorEq, ↓ixShip, ↓ixCall, ↓ixLet, ↓ixRep]); try simp (maxSteps := 4000000) only [↓VP, VQ, ite_self, Nat.reduceEqDiff, Nat.reduceAdd, Nat.reduceSub, Nat.reduceMul, Nat.reduceLeDiff, Nat.reduceLT, Nat.reduceBEq, Int.reduceLE, Int.reduceLT, Int.reduceNeg, Int.reduceAdd, Int.reduceSub, Int.reduceToNat, ↓reduceIte, reduceCtorEq, ↓ixShip, ↓ixCall, ↓ixLet, ↓ixRep, eq_self, decide_true, decide_false, if_true, if_false, not_true_eq_false, List.append_eq])
      repeat' (first | intro _ | refine And.intro ?_ ?_)
      all_goals try (first | omega | (simp only [List.length_map, List.length_cons, List.length_nil, List.length_append, Nat.zero_add]; omega) | exact nnC _ | exact nlC (by decide) _ | exact nbC rfl)
      · have hok : sendOk h L port day S s = true := by
          rw [hsk, Bool.and_eq_true, Bool.and_eq_true, Bool.or_eq_true, decide_eq_true_eq, decide_eq_true_eq, decide_eq_true_eq]
          exact ⟨by assumption, by assumption, by omega⟩
        rw [if_pos hok] at hss
        (refine adraw (by first | exact envOk _ | exact envCOk _ _ _) mixed [⟨false, false, 0⟩, ⟨false, false, 0⟩, ⟨false, false, 0⟩, ⟨false, false, 0⟩, ⟨false, false, 0⟩] (by kernel_rfl) ?_; show vcOpsD _ _ _ (_ :: _) _ _)
        simp (maxSteps := 4000000) only [↓VP, VQ, ite_self, Nat.reduceEqDiff, Nat.reduceAdd, Nat.reduceSub, Nat.reduceMul, Nat.reduceLeDiff, Nat.reduceLT, Nat.reduceBEq, Int.reduceLE, Int.reduceLT, Int.reduceNeg, Int.reduceAdd, Int.reduceSub, Int.reduceToNat, ↓reduceIte, reduceCtorEq, ↓ixShip, ↓ixCall, ↓ixLet, ↓ixRep]
        repeat' (first | intro _ | refine And.intro ?_ ?_)
        all_goals try (first | omega | (simp only [List.length_map, List.length_cons, List.length_nil, List.length_append, Nat.zero_add]; omega) | exact nnC _ | exact nlC (by decide) _ | exact nbC rfl)
        (refine ⟨s + 1, by first | omega | (dsimp only; omega), by dsimp only; omega, ?_⟩; (simp only [Fits, fitsV, fitsO, fitsL, ↓upd, ↓lookV, ↓lookO, ↓lookL, Nat.reduceEqDiff, ↓reduceIte, ints, and_true, true_and, Option.some.injEq]); try simp [hss])
      · have hok : ¬ sendOk h L port day S s = true := fun hx => by
          rw [hsk, Bool.and_eq_true, Bool.and_eq_true, Bool.or_eq_true, decide_eq_true_eq, decide_eq_true_eq, decide_eq_true_eq] at hx
          obtain ⟨x1, x2, x3⟩ := hx
          first | omega | exact absurd x1 (by assumption)
        rw [if_neg hok] at hss
        (refine ⟨s + 1, by first | omega | (dsimp only; omega), by dsimp only; omega, ?_⟩; (simp only [Fits, fitsV, fitsO, fitsL, ↓upd, ↓lookV, ↓lookO, ↓lookL, Nat.reduceEqDiff, ↓reduceIte, ints, and_true, true_and, Option.some.injEq]); try simp [hss])
      · have hok : sendOk h L port day S s = true := by
          rw [hsk, Bool.and_eq_true, Bool.and_eq_true, Bool.or_eq_true, decide_eq_true_eq, decide_eq_true_eq, decide_eq_true_eq]
          exact ⟨by assumption, by assumption, by omega⟩
        rw [if_pos hok] at hss
        (refine adraw (by first | exact envOk _ | exact envCOk _ _ _) mixed [⟨false, false, 0⟩, ⟨false, false, 0⟩, ⟨false, false, 0⟩, ⟨false, false, 0⟩, ⟨false, false, 0⟩] (by kernel_rfl) ?_; show vcOpsD _ _ _ (_ :: _) _ _)
        simp (maxSteps := 4000000) only [↓VP, VQ, ite_self, Nat.reduceEqDiff, Nat.reduceAdd, Nat.reduceSub, Nat.reduceMul, Nat.reduceLeDiff, Nat.reduceLT, Nat.reduceBEq, Int.reduceLE, Int.reduceLT, Int.reduceNeg, Int.reduceAdd, Int.reduceSub, Int.reduceToNat, ↓reduceIte, reduceCtorEq, ↓ixShip, ↓ixCall, ↓ixLet, ↓ixRep]
        repeat' (first | intro _ | refine And.intro ?_ ?_)
        all_goals try (first | omega | (simp only [List.length_map, List.length_cons, List.length_nil, List.length_append, Nat.zero_add]; omega) | exact nnC _ | exact nlC (by decide) _ | exact nbC rfl)
        (refine ⟨s + 1, by first | omega | (dsimp only; omega), by dsimp only; omega, ?_⟩; (simp only [Fits, fitsV, fitsO, fitsL, ↓upd, ↓lookV, ↓lookO, ↓lookL, Nat.reduceEqDiff, ↓reduceIte, ints, and_true, true_and, Option.some.injEq]); try simp [hss])
      · have hok : ¬ sendOk h L port day S s = true := fun hx => by
          rw [hsk, Bool.and_eq_true, Bool.and_eq_true, Bool.or_eq_true, decide_eq_true_eq, decide_eq_true_eq, decide_eq_true_eq] at hx
          obtain ⟨x1, x2, x3⟩ := hx
          first | omega | exact absurd x1 (by assumption)
        rw [if_neg hok] at hss
        (refine ⟨s + 1, by first | omega | (dsimp only; omega), by dsimp only; omega, ?_⟩; (simp only [Fits, fitsV, fitsO, fitsL, ↓upd, ↓lookV, ↓lookO, ↓lookL, Nat.reduceEqDiff, ↓reduceIte, ints, and_true, true_and, Option.some.injEq]); try simp [hss])
      · have hok : ¬ sendOk h L port day S s = true := fun hx => by
          rw [hsk, Bool.and_eq_true, Bool.and_eq_true, Bool.or_eq_true, decide_eq_true_eq, decide_eq_true_eq, decide_eq_true_eq] at hx
          obtain ⟨x1, x2, x3⟩ := hx
          first | omega | exact absurd x1 (by assumption)
        rw [if_neg hok] at hss
        (refine ⟨s + 1, by first | omega | (dsimp only; omega), by dsimp only; omega, ?_⟩; (simp only [Fits, fitsV, fitsO, fitsL, ↓upd, ↓lookV, ↓lookO, ↓lookL, Nat.reduceEqDiff, ↓reduceIte, ints, and_true, true_and, Option.some.injEq]); try simp [hss])
    · have hse : s = h.ships.length := by omega
      rw [← hse, hS, if_pos (by assumption)] at e0
      rw [e0]
    · have hse : s = h.ships.length := by omega
      rw [← hse, hS, if_neg (by assumption)] at e0
      rw [e0]
end Go.Proofs.Ytnfmmhmfbipkjaa.Abs

/- Contracts: the reference's Wrong. -/
namespace Go.Proofs.Ytnfmmhmfbipkjaa.Abs
set_option linter.unusedSimpArgs false
set_option maxHeartbeats 4000000
set_option maxRecDepth 100000
open Go Go.RowKit Go.Proofs

theorem ixCh (l : List (List Int)) (i : Int) (K : AV → Prop) : VIdx (l.map fun x => .slice 1 (x.map (AV.int .i64))) i K ↔ (0 ≤ i ∧ i.toNat < l.length) ∧ K (.slice 1 ((l[i.toNat]!).map (AV.int .i64))) := VIdx_map (fun x => .slice 1 (x.map (AV.int .i64))) l i K

/-- Is there a truth, if nothing was heard of some reports? -/
def okT (h : RHarb) (but : List Int) : Bool := decide (0 < (truthsR h but).length)
/-- The first choice of reports, from so many on, without which there is a truth. -/
def wrongFrom (h : RHarb) (many : Nat) : Option (List Int) := ((List.range' many (h.reports.length + 1 - many)).flatMap (choicesL h.reports.length)).find? (okT h)
def wrongOf (r : Option (List Int)) : List Int × Int := match r with | some l => (l, 0) | none => ([], 9)
def wrongR (h : RHarb) : List Int × Int := if (checkH h).2.2 = 0 then wrongOf (wrongFrom h 0) else ([], (checkH h).2.2)

theorem wrongFrom_end (h : RHarb) {q : Nat} (e : h.reports.length < q) : wrongFrom h q = none := by
  unfold wrongFrom; rw [show h.reports.length + 1 - q = 0 by omega]; rfl
theorem wrongFrom_step (h : RHarb) {q : Nat} (e : q ≤ h.reports.length) : wrongFrom h q = ((choicesL h.reports.length q).find? (okT h)).or (wrongFrom h (q + 1)) := by
  unfold wrongFrom
  rw [show h.reports.length + 1 - q = (h.reports.length + 1 - (q + 1)) + 1 by omega, List.range'_succ, List.flatMap_cons, List.find?_append]

theorem refwrong_c (h : RHarb) (hs : hnamesFit h) :
    PCall Try.prog 31 [harbA h] (.tuple [ints (wrongR h).1, .int .i64 (wrongR h).2]) := by
  intro m
  have h1 := refcheck_c h hs
  have e0 : wrongR h = if (checkH h).2.2 = 0 then wrongOf (wrongFrom h 0) else ([], (checkH h).2.2) := rfl
  have hhk := fun q => hok_check (h := h) q
  have hch := fun (hh : HOk h) (q : Nat) (hq : q ≤ h.reports.length) => choices_c h.reports.length q (by have := hh.nr; omega) (by have := hh.nr; omega)
  have htr := fun (hh : HOk h) (l : List Int) => truths_c h hh l
  have htl := fun (hh : HOk h) (l : List Int) => truths_len hh l
  generalize hX : wrongR h = X at *
  generalize checkH h = C at *
  clear hX
  obtain ⟨C1, C2, C3⟩ := C
  simp only [harbA, harbL, trusA, ints, intss] at *
  (refine acall_intro (E := env fun _ => .imm) (envOk _) rfl Try.func31 rfl Try.call31 (by kernel_rfl) (by simp [Try.ntmps31]) ?_; simp only [Try.f31];  simp (maxSteps := 4000000) only [↓VP, VQ, ite_self, Nat.reduceEqDiff, Nat.reduceAdd, Nat.reduceSub, Nat.reduceMul, Nat.reduceLeDiff, Nat.reduceLT, Nat.reduceBEq, Int.reduceLE, Int.reduceLT, Int.reduceNeg, Int.reduceAdd, Int.reduceSub, Int.reduceToNat, ↓reduceIte, reduceCtorEq, ↓ixShip, ↓ixCall, ↓ixLet, ↓ixRep])
  ((refine ACall.pure (h1) ?_; try simp (maxSteps := 4000000) only [↓VP, VQ, ite_self, Nat.reduceEqDiff, Nat.reduceAdd, Nat.reduceSub, Nat.reduceMul, Nat.reduceLeDiff, Nat.reduceLT, Nat.reduceBEq, Int.reduceLE, Int.reduceLT, Int.reduceNeg, Int.reduceAdd, Int.reduceSub, Int.reduceToNat, ↓reduceIte, reduceCtorEq, ↓ixShip, ↓ixCall, ↓ixLet, ↓ixRep]); try simp (maxSteps := 4000000) only [↓VP, VQ, ite_self, Nat.reduceEqDiff, Nat.reduceAdd, Nat.reduceSub, Nat.reduceMul, Nat.reduceLeDiff, Nat.reduceLT, Nat.reduceBEq, Int.reduceLE, Int.reduceLT, Int.reduceNeg, Int.reduceAdd, Int.reduceSub, Int.reduceToNat, ↓reduceIte, reduceCtorEq, ↓ixShip, ↓ixCall, ↓ixLet, ↓ixRep, eq_self, decide_true, decide_false, if_true, if_false, not_true_eq_false, List.append_eq])
  repeat' (first | intro _ | refine And.intro ?_ ?_)
  · have q : ¬ C3 = 0 := by assumption
    rw [e0, if_neg q]; rfl
  · have q : C3 = 0 := by apply Decidable.byContradiction; assumption
    have hh := hhk q
    have hch' := hch hh
    have htr' := htr hh
    have htl' := htl hh
    have hnr := hh.nr
    rw [if_pos q] at e0
    generalize hR : wrongFrom h 0 = R at *
    refine aloop (envOk _) (fun many : Nat => ⟨[(1, .v (.eptr [.int .i64 h.ports, .int .i64 h.lost, .slice 5 (h.ships.map shipA), .slice 3 (h.letters.map letA), .slice 4 (h.reports.map repA)])), (7, .v (.int .i64 many))], [], [], m⟩)
      (fun many => many ≤ h.reports.length + 1 ∧ R = wrongFrom h many) (fun many => h.reports.length + 1 - many) 0 (fun _ => rfl) ⟨by omega, hR.symm⟩ (by (simp only [Fits, fitsV, fitsO, fitsL, ↓upd, ↓lookV, ↓lookO, ↓lookL, Nat.reduceEqDiff, ↓reduceIte, ints, and_true, true_and, Option.some.injEq]); try simp) ?_
    rintro many ⟨hm, hRm⟩
    have hch2 := hch' many
    simp (maxSteps := 4000000) only [↓VP, VQ, ite_self, Nat.reduceEqDiff, Nat.reduceAdd, Nat.reduceSub, Nat.reduceMul, Nat.reduceLeDiff, Nat.reduceLT, Nat.reduceBEq, Int.reduceLE, Int.reduceLT, Int.reduceNeg, Int.reduceAdd, Int.reduceSub, Int.reduceToNat, ↓reduceIte, reduceCtorEq, ↓ixShip, ↓ixCall, ↓ixLet, ↓ixRep]
    repeat' (first | intro _ | refine And.intro ?_ ?_)
    all_goals try (first | omega | (simp only [List.length_map, List.length_cons, List.length_nil, List.length_append, Nat.zero_add]; omega) | exact nnC _ | exact nlC (by decide) _ | exact nbC rfl)
    · have hmn : many ≤ h.reports.length := by omega
      have hch3 := hch2 hmn
      have hst := wrongFrom_step h hmn
      have hcl := choices_length (below := h.reports.length) (by omega) many
      have h6 : 6 ^ many ≤ 6 ^ 5 := Nat.pow_le_pow_right (by decide) (by omega)
      generalize choicesL h.reports.length many = Cs at *
      ((refine ACall.pure (hch3) ?_; try simp (maxSteps := 4000000) only [↓VP, VQ, ite_self, Nat.reduceEqDiff, Nat.reduceAdd, Nat.reduceSub, Nat.reduceMul, Nat.reduceLeDiff, Nat.reduceLT, Nat.reduceBEq, Int.reduceLE, Int.reduceLT, Int.reduceNeg, Int.reduceAdd, Int.reduceSub, Int.reduceToNat, ↓reduceIte, reduceCtorEq, ↓ixShip, ↓ixCall, ↓ixLet, ↓ixRep]); try simp (maxSteps := 4000000) only [↓VP, VQ, ite_self, Nat.reduceEqDiff, Nat.reduceAdd, Nat.reduceSub, Nat.reduceMul, Nat.reduceLeDiff, Nat.reduceLT, Nat.reduceBEq, Int.reduceLE, Int.reduceLT, Int.reduceNeg, Int.reduceAdd, Int.reduceSub, Int.reduceToNat, ↓reduceIte, reduceCtorEq, ↓ixShip, ↓ixCall, ↓ixLet, ↓ixRep, eq_self, decide_true, decide_false, if_true, if_false, not_true_eq_false, List.append_eq])
      refine aloop (envOk _) (fun i : Nat => ⟨[(1, .v (.eptr [.int .i64 h.ports, .int .i64 h.lost, .slice 5 (h.ships.map shipA), .slice 3 (h.letters.map letA), .slice 4 (h.reports.map repA)])), (7, .v (.int .i64 many)), (8, .v (.slice 1 (Cs.map fun x => .slice 1 (x.map (AV.int .i64))))), (9, .v (.int .i64 i))], [], [], m⟩)
        (fun i => i ≤ Cs.length ∧ R = ((Cs.drop i).find? (okT h)).or (wrongFrom h (many + 1))) (fun i => Cs.length - i) 0 (fun _ => rfl) ⟨by omega, by rw [hRm, hst, List.drop_zero]⟩ (by (simp only [Fits, fitsV, fitsO, fitsL, ↓upd, ↓lookV, ↓lookO, ↓lookL, Nat.reduceEqDiff, ↓reduceIte, ints, and_true, true_and, Option.some.injEq]); try simp) ?_
      rintro i ⟨hi, hRi⟩
      simp (maxSteps := 4000000) only [↓VP, VQ, ite_self, Nat.reduceEqDiff, Nat.reduceAdd, Nat.reduceSub, Nat.reduceMul, Nat.reduceLeDiff, Nat.reduceLT, Nat.reduceBEq, Int.reduceLE, Int.reduceLT, Int.reduceNeg, Int.reduceAdd, Int.reduceSub, Int.reduceToNat, ↓reduceIte, reduceCtorEq, ↓ixShip, ↓ixCall, ↓ixLet, ↓ixRep]
      repeat' (first | intro _ | refine And.intro ?_ ?_)
      all_goals try (first | omega | (simp only [List.length_map, List.length_cons, List.length_nil, List.length_append, Nat.zero_add]; omega) | exact nnC _ | exact nlC (by decide) _ | exact nbC rfl)
      · have hilt : i < Cs.length := by omega
        have htr2 := htr' (Cs[i]!)
        have htl2 := htl' (Cs[i]!)
        have hdr : Cs.drop i = Cs[i]! :: Cs.drop (i + 1) := by rw [getD_any hilt]; exact List.drop_eq_getElem_cons hilt
        have hok : okT h (Cs[i]!) = decide (0 < (truthsR h (Cs[i]!)).length) := rfl
        (refine adraw (by first | exact envOk _ | exact envCOk _ _ _) mixed [⟨false, false, 0⟩, ⟨false, false, 0⟩, ⟨false, false, 0⟩, ⟨false, false, 0⟩, ⟨false, false, 0⟩, ⟨false, false, 0⟩, ⟨false, false, 0⟩, ⟨false, false, 0⟩] (by kernel_rfl) ?_; show vcOpsD _ _ _ (_ :: _) _ _)
        simp (maxSteps := 4000000) only [↓VP, VQ, ite_self, Nat.reduceEqDiff, Nat.reduceAdd, Nat.reduceSub, Nat.reduceMul, Nat.reduceLeDiff, Nat.reduceLT, Nat.reduceBEq, Int.reduceLE, Int.reduceLT, Int.reduceNeg, Int.reduceAdd, Int.reduceSub, Int.reduceToNat, ↓reduceIte, reduceCtorEq, ↓ixShip, ↓ixCall, ↓ixLet, ↓ixRep, ↓ixCh]
        refine ⟨⟨by omega, by omega⟩, ?_⟩
        refine VPure.of htr2 ?_
        simp (maxSteps := 4000000) only [↓VP, VQ, ite_self, Nat.reduceEqDiff, Nat.reduceAdd, Nat.reduceSub, Nat.reduceMul, Nat.reduceLeDiff, Nat.reduceLT, Nat.reduceBEq, Int.reduceLE, Int.reduceLT, Int.reduceNeg, Int.reduceAdd, Int.reduceSub, Int.reduceToNat, ↓reduceIte, reduceCtorEq, ↓ixShip, ↓ixCall, ↓ixLet, ↓ixRep, ↓ixCh]
        repeat' (first | intro _ | refine And.intro ?_ ?_)
        all_goals try (first | omega | (simp only [List.length_map, List.length_cons, List.length_nil, List.length_append, Nat.zero_add]; omega) | exact nnC _ | exact nlC (by decide) _ | exact nbC rfl)
        · have q1 : okT h (Cs[i]!) = true := by rw [hok]; exact decide_eq_true (by omega)
          rw [hdr, List.find?_cons_of_pos q1] at hRi
          rw [e0, hRi]
          rfl
        · have q1 : ¬ okT h (Cs[i]!) = true := by rw [hok, decide_eq_true_eq]; omega
          rw [hdr, List.find?_cons_of_neg q1] at hRi
          refine ⟨i + 1, ⟨by omega, hRi⟩, by dsimp only; omega, ?_⟩
          (simp only [Fits, fitsV, fitsO, fitsL, ↓upd, ↓lookV, ↓lookO, ↓lookL, Nat.reduceEqDiff, ↓reduceIte, ints, and_true, true_and, Option.some.injEq])
          try simp
      · have hie : i = Cs.length := by omega
        rw [hie, List.drop_length] at hRi
        refine ⟨many + 1, ⟨by omega, by rw [hRi]; rfl⟩, by dsimp only; omega, ?_⟩
        (simp only [Fits, fitsV, fitsO, fitsL, ↓upd, ↓lookV, ↓lookO, ↓lookL, Nat.reduceEqDiff, ↓reduceIte, ints, and_true, true_and, Option.some.injEq])
        try simp
    · rw [wrongFrom_end h (by omega)] at hRm
      rw [e0, hRm]
      rfl
end Go.Proofs.Ytnfmmhmfbipkjaa.Abs
