/- Lemmas for the statements of this seat (W7): they hold without conditions beyond those that each one states. -/
import Derived.Test.YtnfmmhmfbipkjaaW6
import Derived.Test.YtnfmmhmfbipkjaaW5
/- Contracts: the reference's Calls, Sunk. -/
namespace Go.Proofs.Ytnfmmhmfbipkjaa.Abs
set_option linter.unusedSimpArgs false
set_option maxHeartbeats 4000000
set_option maxRecDepth 100000
open Go Go.RowKit Go.Proofs

def settledR (a b : Int) : Int := if a = b then 1 else if a = 0 then 2 else 0

theorem known_zero {h : RHarb} {e : Int} (q : (knownR h e).2 = 0) : e = 0 ∧ (knownR h e).1 = truthsR h [] ∧ truthsR h [] ≠ [] := by
  unfold knownR at *
  split at q
  · rename_i q1; exact absurd q q1
  · rename_i q1
    split at q
    · exact absurd q (by decide)
    · rename_i q2
      exact ⟨by omega, by rw [if_neg q1, if_neg q2], q2⟩
theorem truths_fok {h : RHarb} (hh : HOk h) {but : List Int} {t : RTru} (e : t ∈ truthsR h but) : FOk h t.fleet := by
  unfold truthsR at e
  simp only [List.mem_map, List.mem_filter] at e
  obtain ⟨f, ⟨h1, h2⟩, h3⟩ := e
  subst h3
  exact fleets_fok hh h1
theorem truths_by {h : RHarb} {but : List Int} {t : RTru} (e : t ∈ truthsR h but) : t.by_ = byTo h t.fleet but h.letters.length := by
  unfold truthsR at e
  simp only [List.mem_map, List.mem_filter] at e
  obtain ⟨f, ⟨h1, h2⟩, h3⟩ := e
  subst h3
  rfl

def callsR (h : RHarb) (ship port : Int) : (Int × Int) × Int × Int :=
  let e1 := indexE (checkH h).2.2 ship h.ships.length
  let e2 := if e1 = 0 then indexE (checkH h).2.2 port h.ports else e1
  let k := knownR h e2
  if k.2 = 0 then let c := calledTo h k.1 ship.toNat port k.1.length; (c.1, settledR c.2 k.1.length, 0) else ((0, 0), 0, k.2)

def sinkN (h : RHarb) (l : List RTru) (s : Nat) : Nat → Int
  | 0 => 0
  | n + 1 => sinkN h l s n + if (s : Int) ∈ lostL h (l[n]!).fleet (l[n]!).fleet.length then 1 else 0
theorem sinkN_le (h : RHarb) (l : List RTru) (s n : Nat) : 0 ≤ sinkN h l s n ∧ sinkN h l s n ≤ n := by
  induction n with
  | zero => simp [sinkN]
  | succ n ih => unfold sinkN; split <;> omega
def sureTo (h : RHarb) (l : List RTru) (k : Nat) : List Int := ((List.range k).filter fun s => decide (sinkN h l s l.length = (l.length : Int))).map fun (s : Nat) => (s : Int)
def mayTo (h : RHarb) (l : List RTru) (k : Nat) : List Int := ((List.range k).filter fun s => decide (0 < sinkN h l s l.length)).map fun (s : Nat) => (s : Int)
def sunkR (h : RHarb) : List Int × List Int × Int :=
  if (knownR h (checkH h).2.2).2 = 0 then (sureTo h (knownR h (checkH h).2.2).1 h.ships.length, mayTo h (knownR h (checkH h).2.2).1 h.ships.length, 0) else ([], [], (knownR h (checkH h).2.2).2)

end Go.Proofs.Ytnfmmhmfbipkjaa.Abs

/- Contracts: the reference's Come, By. -/
namespace Go.Proofs.Ytnfmmhmfbipkjaa.Abs
set_option linter.unusedSimpArgs false
set_option maxHeartbeats 4000000
set_option maxRecDepth 100000
open Go Go.RowKit Go.Proofs

theorem ixZ (l : List Int) (i : Int) (K : AV → Prop) : VIdx (l.map (AV.int .i64)) i K ↔ (0 ≤ i ∧ i.toNat < l.length) ∧ K (.int .i64 l[i.toNat]!) := VIdx_map (AV.int .i64) l i K

/-- What is so of each truth. -/
structure TOk (h : RHarb) (t : RTru) : Prop where
  fok : FOk h t.fleet
  n : t.by_.length = h.letters.length
  len : ∀ k (_ : k < h.letters.length), (t.by_[k]!).length ≤ 3
  ship : ∀ k (_ : k < h.letters.length), ∀ x ∈ t.by_[k]!, 0 ≤ x ∧ x.toNat < h.ships.length
theorem byTo_at (h : RHarb) (l : List Fate) (but : List Int) {n k : Nat} (hk : k < n) : (byTo h l but n)[k]! = couldL h l k but h.ships.length := by
  rw [getD_any (by rw [byTo_length]; exact hk)]
  simp [byTo]
/-- Which letters' ships have come until a day. -/
def comeIn (h : RHarb) (t : RTru) (k : Nat) (day : Int) : Nat → Int
  | 0 => 0
  | n + 1 => comeIn h t k day n + if untilB (dayR h t.fleet ((t.by_[k]!)[n]!).toNat (h.letters[k]!).port) day = true then 1 else 0
def comeTo (h : RHarb) (l : List RTru) (k : Nat) (day : Int) : Nat → Int
  | 0 => 0
  | n + 1 => comeTo h l k day n + comeIn h (l[n]!) k day ((l[n]!).by_[k]!).length
def allTo (l : List RTru) (k : Nat) : Nat → Int
  | 0 => 0
  | n + 1 => allTo l k n + (((l[n]!).by_[k]!).length : Int)
def comeR (h : RHarb) (letter day : Int) : Int × Int :=
  let k := knownR h (dayE day (indexE (checkH h).2.2 letter h.letters.length))
  if k.2 = 0 then (settledR (comeTo h k.1 letter.toNat day k.1.length) (allTo k.1 letter.toNat k.1.length), 0) else (0, k.2)

/-- Is there a truth by which a letter goes by a ship? -/
def metB (l : List RTru) (k s n : Nat) : Bool := (List.range n).any fun i => decide ((s : Int) ∈ (l[i]!).by_[k]!)
def metL (l : List RTru) (k n : Nat) : List Int := ((List.range n).filter fun s => metB l k s l.length).map fun (s : Nat) => (s : Int)
def byR (h : RHarb) (letter : Int) : List Int × Int :=
  if (knownR h (indexE (checkH h).2.2 letter h.letters.length)).2 = 0 then (metL (knownR h (indexE (checkH h).2.2 letter h.letters.length)).1 letter.toNat h.ships.length, 0) else ([], (knownR h (indexE (checkH h).2.2 letter h.letters.length)).2)

end Go.Proofs.Ytnfmmhmfbipkjaa.Abs

/- Contracts: the reference's Before. -/
namespace Go.Proofs.Ytnfmmhmfbipkjaa.Abs
set_option linter.unusedSimpArgs false
set_option maxHeartbeats 4000000
set_option maxRecDepth 100000
open Go Go.RowKit Go.Proofs

/-- Does one day come before another one, if it comes at all? -/
def befB (x y : Int) : Bool := decide (0 ≤ x) && !untilB y x
def befRow (h : RHarb) (t : RTru) (a b x : Nat) : Nat → Int
  | 0 => 0
  | n + 1 => befRow h t a b x n + if befB (dayR h t.fleet x (h.letters[a]!).port) (dayR h t.fleet ((t.by_[b]!)[n]!).toNat (h.letters[b]!).port) = true then 1 else 0
def befIn (h : RHarb) (t : RTru) (a b : Nat) : Nat → Int
  | 0 => 0
  | n + 1 => befIn h t a b n + befRow h t a b ((t.by_[a]!)[n]!).toNat (t.by_[b]!).length
def befTo (h : RHarb) (l : List RTru) (a b : Nat) : Nat → Int
  | 0 => 0
  | n + 1 => befTo h l a b n + befIn h (l[n]!) a b ((l[n]!).by_[a]!).length
def pairsTo (l : List RTru) (a b : Nat) : Nat → Int
  | 0 => 0
  | n + 1 => pairsTo l a b n + (((l[n]!).by_[a]!).length : Int) * (((l[n]!).by_[b]!).length : Int)
def befE (h : RHarb) (one other : Int) : Int :=
  if (if indexE (checkH h).2.2 one h.letters.length = 0 then indexE (checkH h).2.2 other h.letters.length else indexE (checkH h).2.2 one h.letters.length) = 0 ∧ one = other then 2 else (if indexE (checkH h).2.2 one h.letters.length = 0 then indexE (checkH h).2.2 other h.letters.length else indexE (checkH h).2.2 one h.letters.length)
def beforeR (h : RHarb) (one other : Int) : Int × Int :=
  if (knownR h (befE h one other)).2 = 0 then (settledR (befTo h (knownR h (befE h one other)).1 one.toNat other.toNat (knownR h (befE h one other)).1.length) (pairsTo (knownR h (befE h one other)).1 one.toNat other.toNat (knownR h (befE h one other)).1.length), 0) else (0, (knownR h (befE h one other)).2)
end Go.Proofs.Ytnfmmhmfbipkjaa.Abs

/- Contracts: the reference's But, Send. -/
namespace Go.Proofs.Ytnfmmhmfbipkjaa.Abs
set_option linter.unusedSimpArgs false
set_option maxHeartbeats 4000000
set_option maxRecDepth 100000
open Go Go.RowKit Go.Proofs

/-- A harbour without some reports. -/
def butTo (h : RHarb) (but : List Int) (n : Nat) : List RRep := ((List.range n).filter fun (i : Nat) => decide ((i : Int) ∉ but)).map fun (i : Nat) => h.reports[i]!
def butH (h : RHarb) (but : List Int) : RHarb := { h with reports := butTo h but h.reports.length }
theorem butTo_succ (h : RHarb) (but : List Int) (n : Nat) : butTo h but (n + 1) = if (n : Int) ∈ but then butTo h but n else butTo h but n ++ [h.reports[n]!] := by
  unfold butTo
  rw [List.range_succ, List.filter_append, List.map_append]
  by_cases q : (n : Int) ∈ but <;> simp [q]
theorem butTo_length (h : RHarb) (but : List Int) (n : Nat) : (butTo h but n).length ≤ n := by
  unfold butTo; rw [List.length_map]; exact Nat.le_trans (List.length_filter_le _ _) (by simp)

theorem but_c (h : RHarb) (hr : h.reports.length ≤ 1000000) (but : List Int) : PCall Try.prog 43 [harbA h, ints but] (harbA (butH h but)) := by
  intro m
  have hhas := fun (i : Nat) => has_c but (i : Int)
  have e0 : (butH h but).reports = butTo h but h.reports.length := rfl
  simp only [harbA, harbL, ints] at *
  (refine acall_intro (E := envC (modeAt [2, 4] []) false []) (envCOk _ _ _) rfl Try.func43 rfl Try.call43 (by kernel_rfl) (by simp [Try.ntmps43]) ?_; simp only [Try.f43];  simp (maxSteps := 4000000) only [↓VP, VQ, ite_self, Nat.reduceEqDiff, Nat.reduceAdd, Nat.reduceSub, Nat.reduceMul, Nat.reduceLeDiff, Nat.reduceLT, Nat.reduceBEq, Int.reduceLE, Int.reduceLT, Int.reduceNeg, Int.reduceAdd, Int.reduceSub, Int.reduceToNat, ↓reduceIte, reduceCtorEq, ↓ixShip, ↓ixCall, ↓ixLet, ↓ixRep])
  repeat' (first | intro _ | refine And.intro ?_ ?_)
  all_goals try (first | omega | (simp only [List.length_map, List.length_cons, List.length_nil, List.length_append, Nat.zero_add]; omega) | exact nnC _ | exact nlC (by decide) _ | exact nbC rfl)
  refine aloop (envCOk _ _ _) (fun i : Nat => ⟨[(1, .v (.slice 1 (but.map (AV.int .i64)))), (2, .loc 2 0), (4, .loc 4 0), (5, .v (.slice 4 ((butTo h but i).map repA))), (6, .v (.int .i64 i))], [5], [(2, [.int .i64 h.ports, .int .i64 h.lost, .slice 5 (h.ships.map shipA), .slice 3 (h.letters.map letA), .slice 4 (h.reports.map repA)]), (4, [.int .i64 0, .int .i64 0, .slice 5 [], .slice 3 [], .slice 4 []])], m⟩)
    (fun i => i ≤ h.reports.length) (fun i => h.reports.length - i) 0 (fun _ => rfl) (by simp) (by (simp only [Fits, fitsV, fitsO, fitsL, ↓upd, ↓lookV, ↓lookO, ↓lookL, Nat.reduceEqDiff, ↓reduceIte, ints, and_true, true_and, Option.some.injEq]); simp [butTo]) ?_
  intro i hi
  have hbs := butTo_succ h but i
  have hbl := butTo_length h but i
  have hhas' := hhas i
  simp (maxSteps := 4000000) only [↓VP, VQ, ite_self, Nat.reduceEqDiff, Nat.reduceAdd, Nat.reduceSub, Nat.reduceMul, Nat.reduceLeDiff, Nat.reduceLT, Nat.reduceBEq, Int.reduceLE, Int.reduceLT, Int.reduceNeg, Int.reduceAdd, Int.reduceSub, Int.reduceToNat, ↓reduceIte, reduceCtorEq, ↓ixShip, ↓ixCall, ↓ixLet, ↓ixRep]
  repeat' (first | intro _ | refine And.intro ?_ ?_)
  all_goals try (first | omega | (simp only [List.length_map, List.length_cons, List.length_nil, List.length_append, Nat.zero_add]; omega) | exact nnC _ | exact nlC (by decide) _ | exact nbC rfl)
  · ((refine ACall.pure (hhas') ?_; try simp (maxSteps := 4000000) only [↓VP, VQ, ite_self, Nat.reduceEqDiff, Nat.reduceAdd, Nat.reduceSub, Nat.reduceMul, Nat.reduceLeDiff, Nat.reduceLT, Nat.reduceBEq, Int.reduceLE, Int.reduceLT, Int.reduceNeg, Int.reduceAdd, Int.reduceSub, Int.reduceToNat, ↓reduceIte, reduceCtorEq, ↓ixShip, ↓ixCall, ↓ixLet, ↓ixRep]); try simp (maxSteps := 4000000) only [↓VP, VQ, ite_self, Nat.reduceEqDiff, Nat.reduceAdd, Nat.reduceSub, Nat.reduceMul, Nat.reduceLeDiff, Nat.reduceLT, Nat.reduceBEq, Int.reduceLE, Int.reduceLT, Int.reduceNeg, Int.reduceAdd, Int.reduceSub, Int.reduceToNat, ↓reduceIte, reduceCtorEq, ↓ixShip, ↓ixCall, ↓ixLet, ↓ixRep, eq_self, decide_true, decide_false, if_true, if_false, not_true_eq_false, List.append_eq])
    repeat' (first | intro _ | refine And.intro ?_ ?_)
    all_goals try (first | omega | (simp only [List.length_map, List.length_cons, List.length_nil, List.length_append, Nat.zero_add]; omega) | exact nnC _ | exact nlC (by decide) _ | exact nbC rfl)
    · have q : ¬ (i : Int) ∈ but := by assumption
      rw [if_neg q] at hbs
      (refine ⟨i + 1, by first | omega | (dsimp only; omega), by dsimp only; omega, ?_⟩; (simp only [Fits, fitsV, fitsO, fitsL, ↓upd, ↓lookV, ↓lookO, ↓lookL, Nat.reduceEqDiff, ↓reduceIte, ints, and_true, true_and, Option.some.injEq]); try simp [hbs, repA, -List.getElem!_eq_getElem?_getD])
    · have q : (i : Int) ∈ but := by first | assumption | (apply Decidable.byContradiction; assumption)
      rw [if_pos q] at hbs
      (refine ⟨i + 1, by first | omega | (dsimp only; omega), by dsimp only; omega, ?_⟩; (simp only [Fits, fitsV, fitsO, fitsL, ↓upd, ↓lookV, ↓lookO, ↓lookL, Nat.reduceEqDiff, ↓reduceIte, ints, and_true, true_and, Option.some.injEq]); try simp [hbs])
  · have hie : i = h.reports.length := by omega
    subst hie
    rw [e0]
    rfl

def sendOk (h : RHarb) (l : List RTru) (port day : Int) (b : Int × Int) (s : Nat) : Bool :=
  takesB (h.ships[s]!) port day && (decide ((calledTo h l s port l.length).2 = (l.length : Int)) && (decide (b.1 < 0) || decide ((calledTo h l s port l.length).1.2 < b.2)))
def sendTo (h : RHarb) (l : List RTru) (port day : Int) : Nat → Int × Int
  | 0 => (-1, 0)
  | s + 1 => if sendOk h l port day (sendTo h l port day s) s = true then ((s : Int), (calledTo h l s port l.length).1.2) else sendTo h l port day s
theorem sendTo_le (h : RHarb) (l : List RTru) (port day : Int) (n : Nat) : -1 ≤ (sendTo h l port day n).1 ∧ (sendTo h l port day n).1 < n := by
  induction n with
  | zero => simp [sendTo]
  | succ n ih => unfold sendTo; split <;> (try dsimp only) <;> omega
def sendR (h : RHarb) (port day : Int) : Int × Int × Int :=
  if (knownR h (dayE day (indexE (checkH h).2.2 port h.ports))).2 = 0 then (if (sendTo h (knownR h (dayE day (indexE (checkH h).2.2 port h.ports))).1 port day h.ships.length).1 < 0 then (0, 0, 9) else ((sendTo h (knownR h (dayE day (indexE (checkH h).2.2 port h.ports))).1 port day h.ships.length).1, (sendTo h (knownR h (dayE day (indexE (checkH h).2.2 port h.ports))).1 port day h.ships.length).2, 0)) else (0, 0, (knownR h (dayE day (indexE (checkH h).2.2 port h.ports))).2)

end Go.Proofs.Ytnfmmhmfbipkjaa.Abs

/- Contracts: the reference's Wrong. -/
namespace Go.Proofs.Ytnfmmhmfbipkjaa.Abs
set_option linter.unusedSimpArgs false
set_option maxHeartbeats 4000000
set_option maxRecDepth 100000
open Go Go.RowKit Go.Proofs

/-- Is there a truth, if nothing was heard of some reports? -/
def okT (h : RHarb) (but : List Int) : Bool := decide (0 < (truthsR h but).length)
/-- The first choice of reports, from so many on, without which there is a truth. -/
def wrongFrom (h : RHarb) (many : Nat) : Option (List Int) := ((List.range' many (h.reports.length + 1 - many)).flatMap (choicesL h.reports.length)).find? (okT h)
def wrongOf (r : Option (List Int)) : List Int × Int := match r with | some l => (l, 0) | none => ([], 9)
def wrongR (h : RHarb) : List Int × Int := if (checkH h).2.2 = 0 then wrongOf (wrongFrom h 0) else ([], (checkH h).2.2)

theorem wrongFrom_step (h : RHarb) {q : Nat} (e : q ≤ h.reports.length) : wrongFrom h q = ((choicesL h.reports.length q).find? (okT h)).or (wrongFrom h (q + 1)) := by
  unfold wrongFrom
  rw [show h.reports.length + 1 - q = (h.reports.length + 1 - (q + 1)) + 1 by omega, List.range'_succ, List.flatMap_cons, List.find?_append]

end Go.Proofs.Ytnfmmhmfbipkjaa.Abs
