/- The statement ShipTrue: for any harbour, past and day the law returns true. Conditions: none. -/
import Derived.Test.YtnfmmhmfbipkjaaW13
namespace Go.Proofs.Ytnfmmhmfbipkjaa.Abs
set_option linter.unusedSimpArgs false
open Go Go.RowKit Go.Proofs

def mvS (d : Int) (s : RShip) : RShip := { s with sails := s.sails + d }
def mvL (d : Int) (l : RLet) : RLet := { l with day := l.day + d }
def mvR (d : Int) (r : RRep) : RRep := { r with day := r.day + d }
def movH (h : RHarb) (d : Int) : RHarb := { h with ships := h.ships.map (mvS d), letters := h.letters.map (mvL d), reports := h.reports.map (mvR d) }

theorem map_at {α β : Type} [Inhabited α] [Inhabited β] {l : List α} (f : α → β) {i : Nat} (hi : i < l.length) : (l.map f)[i]! = f (l[i]!) := by
  rw [getD_any (by simpa using hi), getD_any hi, List.getElem_map]

theorem mov_ship {h : RHarb} {d : Int} {s : Nat} (hs : s < h.ships.length) : (movH h d).ships[s]! = mvS d (h.ships[s]!) := map_at _ hs
theorem mov_letter {h : RHarb} {d : Int} {k : Nat} (hk : k < h.letters.length) : (movH h d).letters[k]! = mvL d (h.letters[k]!) := map_at _ hk
theorem mov_report {h : RHarb} {d : Int} {i : Nat} (hi : i < h.reports.length) : (movH h d).reports[i]! = mvR d (h.reports[i]!) := map_at _ hi

theorem all_mov (d : Int) : ∀ (l : List RShip) (out : List (List Fate)), (l.map (mvS d)).foldl stepR out = l.foldl stepR out
  | [], _ => rfl
  | _ :: l, out => by
    simp only [List.map_cons, List.foldl_cons]
    exact all_mov d l _
theorem lost_mov (d : Int) : ∀ (l : List RShip) (f : List Fate), lostN (l.map (mvS d)) f = lostN l f
  | [], _ => rfl
  | _ :: _, [] => rfl
  | s :: l, x :: f => by
    simp only [List.map_cons, lostN, lost_mov d l f]
    rfl
theorem fleets_mov (h : RHarb) (d : Int) : fleetsR (movH h d).ships (movH h d).lost = fleetsR h.ships h.lost := by
  unfold fleetsR allR
  show ((h.ships.map (mvS d)).foldl stepR [[]]).filter (fun f => decide (lostN (h.ships.map (mvS d)) f ≤ h.lost)) = _
  rw [all_mov]
  simp only [lost_mov]

theorem day_mov {h : RHarb} (hh : HOk h) {f : List Fate} (hf : FOk h f) {s : Nat} (hs : s < h.ships.length) (port d : Int) :
    (dayR h f s port = -1 ∧ dayR (movH h d) f s port = -1) ∨ (0 ≤ dayR h f s port ∧ dayR (movH h d) f s port = dayR h f s port + d) := by
  have h2 := hf.late s (by have := hf.n; omega)
  have h3 := (hh.ship s hs).sails
  unfold dayR
  rw [mov_ship hs]
  show _ ∨ (_ ∧ (if atC (h.ships[s]!).calls port < 0 ∨ (f[s]!).made ≤ atC (h.ships[s]!).calls port then -1 else (h.ships[s]!).sails + d + ((h.ships[s]!).calls[(atC (h.ships[s]!).calls port).toNat]!).after + (f[s]!).late) = _)
  by_cases q : atC (h.ships[s]!).calls port < 0 ∨ (f[s]!).made ≤ atC (h.ships[s]!).calls port
  · left
    rw [if_pos q]
    exact ⟨rfl, if_pos q⟩
  · right
    rw [if_neg q, if_neg q]
    have h1 := (hh.ship s hs).call _ (atC_in (show 0 ≤ atC (h.ships[s]!).calls port by omega))
    generalize ((h.ships[s]!).calls[(atC (h.ships[s]!).calls port).toNat]!) = c at *
    omega

theorem so_mov {r : RRep} {d x y : Int} (hr : 0 ≤ r.day) (hd : 0 ≤ d) (e : (x = -1 ∧ y = -1) ∨ (0 ≤ x ∧ y = x + d)) : soB (mvR d r) y = soB r x := by
  unfold soB untilB
  show (if r.kind = 0 ∨ r.kind = 2 then decide (y = r.day + d) else !(decide (0 ≤ y) && decide (y ≤ r.day + d))) = _
  rcases e with ⟨rfl, rfl⟩ | ⟨e1, rfl⟩
  · split
    · exact decide_eq_decide.2 (by omega)
    · rfl
  · split
    · exact decide_eq_decide.2 (by omega)
    · rw [decide_eq_true (show 0 ≤ x + d by omega), decide_eq_true e1]
      exact congrArg (fun b => !(true && b)) (decide_eq_decide.2 (by omega))

theorem takes_mov {s : RShip} {port day d : Int} : takesB (mvS d s) port (day + d) = takesB s port day := by
  unfold takesB
  show (decide (day + d ≤ s.sails + d) && _) = _
  rw [decide_eq_decide.2 (show day + d ≤ s.sails + d ↔ day ≤ s.sails by omega)]
  rfl

section
variable {h : RHarb} (hh : HOk h) {d : Int} (hd : 0 ≤ d)
include hh hd

theorem said_mov {f : List Fate} (hf : FOk h f) (but : List Int) : saidB (movH h d) f but (movH h d).reports.length = saidB h f but h.reports.length := by
  have hn : (movH h d).reports.length = h.reports.length := List.length_map _
  rw [hn]
  unfold saidB
  refine all_congr fun i hi => ?_
  have hr := hh.report i hi
  unfold ofS
  rw [mov_report hi]
  show (!(decide ((h.reports[i]!).kind < 2) && decide ((i : Int) ∉ but)) || soB (mvR d (h.reports[i]!)) (dayR (movH h d) f (h.reports[i]!).of_.toNat (h.reports[i]!).port)) = _
  by_cases q : (h.reports[i]!).kind < 2
  · rw [if_pos q] at hr
    rw [so_mov hr.2.2.2.1 hd (day_mov hh hf (by omega) _ d)]
  · rw [decide_eq_false q]; rfl

theorem reps_mov {f : List Fate} (hf : FOk h f) (but : List Int) {k s : Nat} (hk : k < h.letters.length) (hs : s < h.ships.length) : repsB (movH h d) f k but s (movH h d).reports.length = repsB h f k but s h.reports.length := by
  have hn : (movH h d).reports.length = h.reports.length := List.length_map _
  rw [hn]
  unfold repsB
  refine all_congr fun i hi => ?_
  have hr := hh.report i hi
  unfold ofB
  rw [mov_report hi, mov_letter hk]
  show (!(decide (2 ≤ (h.reports[i]!).kind) && (decide ((h.reports[i]!).of_ = (k : Int)) && decide ((i : Int) ∉ but))) || soB (mvR d (h.reports[i]!)) (dayR (movH h d) f s (h.letters[k]!).port)) = _
  rw [so_mov hr.2.2.2.1 hd (day_mov hh hf hs _ d)]

theorem can_mov {f : List Fate} (hf : FOk h f) (but : List Int) {k s : Nat} (hk : k < h.letters.length) (hs : s < h.ships.length) : canB (movH h d) f k but s = canB h f k but s := by
  unfold canB
  rw [reps_mov hh hd hf but hk hs]
  refine congrArg (fun b => b && _) ?_
  unfold shipB
  rw [mov_ship hs, mov_letter hk]
  show (takesB (mvS d (h.ships[s]!)) (h.letters[k]!).port ((h.letters[k]!).day + d) && _) = _
  rw [takes_mov]
  rfl

theorem could_mov {f : List Fate} (hf : FOk h f) (but : List Int) {k : Nat} (hk : k < h.letters.length) : couldL (movH h d) f k but (movH h d).ships.length = couldL h f k but h.ships.length := by
  have hn : (movH h d).ships.length = h.ships.length := List.length_map _
  rw [hn]
  unfold couldL
  refine congrArg (List.map _) (List.filter_congr fun s hs => ?_)
  exact can_mov hh hd hf but hk (List.mem_range.1 hs)

theorem true_mov {f : List Fate} (hf : FOk h f) (but : List Int) : trueB (movH h d) but f = trueB h but f := by
  unfold trueB
  rw [said_mov hh hd hf]
  refine congrArg (fun b => saidB h f but h.reports.length && b) ?_
  have hn : (movH h d).letters.length = h.letters.length := List.length_map _
  rw [hn]
  unfold goB
  exact all_congr fun k hk => by rw [could_mov hh hd hf but hk]

theorem truths_mov (but : List Int) : truthsR (movH h d) but = truthsR h but := by
  unfold truthsR
  rw [fleets_mov]
  rw [List.filter_congr fun f hf => true_mov hh hd (fleets_fok hh hf) but]
  refine List.map_congr_left fun f hf => ?_
  have hf := fleets_fok hh (List.mem_filter.1 hf).1
  unfold truOf byTo
  have hn : (movH h d).letters.length = h.letters.length := List.length_map _
  rw [hn]
  refine congrArg (fun l => (⟨f, l⟩ : RTru)) (List.map_congr_left fun k hk => ?_)
  exact could_mov hh hd hf but (List.mem_range.1 hk)
end

theorem known_mov {h : RHarb} (hh : HOk h) {d : Int} (hd : 0 ≤ d) (e : Int) : knownR (movH h d) e = knownR h e := by
  unfold knownR
  rw [truths_mov hh hd]

theorem lostL_mov {h : RHarb} {d : Int} {f : List Fate} (hf : FOk h f) : lostL (movH h d) f f.length = lostL h f f.length := by
  unfold lostL
  refine congrArg (List.map _) (List.filter_congr fun i hi => ?_)
  have hi := List.mem_range.1 hi
  rw [mov_ship (by have := hf.n; omega)]
  rfl

theorem sinkN_mov {h : RHarb} (hh : HOk h) {d : Int} {T : List RTru} (hT : ∀ t ∈ T, FOk h t.fleet) (s : Nat) : ∀ n, n ≤ T.length → sinkN (movH h d) T s n = sinkN h T s n
  | 0, _ => rfl
  | n + 1, hn => by
    unfold sinkN
    rw [sinkN_mov hh hT s n (by omega)]
    rw [lostL_mov (hT _ (at_mem (by omega)))]

theorem sunk_mov {h : RHarb} (e : (checkH h).2.2 = 0) {d : Int} (hd : 0 ≤ d) (e' : (checkH (movH h d)).2.2 = 0) : sunkR (movH h d) = sunkR h := by
  have hh := hok_check e
  unfold sunkR
  rw [e, e', known_mov hh hd]
  by_cases q : (knownR h 0).2 = 0
  · rw [if_pos q, if_pos q]
    obtain ⟨_, q2, _⟩ := known_zero q
    have hT : ∀ t ∈ (knownR h 0).1, FOk h t.fleet := fun t ht => by rw [q2] at ht; exact truths_fok hh ht
    have hn : (movH h d).ships.length = h.ships.length := List.length_map _
    unfold sureTo mayTo
    rw [hn]
    simp only [sinkN_mov hh hT _ _ (Nat.le_refl _)]
  · rw [if_neg q, if_neg q]

theorem wrong_mov {h : RHarb} (e : (checkH h).2.2 = 0) {d : Int} (hd : 0 ≤ d) (e' : (checkH (movH h d)).2.2 = 0) : wrongR (movH h d) = wrongR h := by
  have hh := hok_check e
  unfold wrongR wrongFrom
  have hn : (movH h d).reports.length = h.reports.length := List.length_map _
  have ho : okT (movH h d) = okT h := funext fun l => by unfold okT; rw [truths_mov hh hd]
  rw [e, e', hn, ho]

theorem some_mov {h : RHarb} (e : someB h = true) {d : Int} (hd : 0 ≤ d) (e' : (checkH (movH h d)).2.2 = 0) : someB (movH h d) = true := by
  have hh := hok_check (some_check e)
  unfold someB validB okT
  rw [truths_mov hh hd, decide_eq_true e', decide_eq_true (List.length_pos_iff.2 (some_truths e))]
  rfl

theorem calls_mov {h : RHarb} (e : someB h = true) {d : Int} (hd : 0 ≤ d) (e' : (checkH (movH h d)).2.2 = 0) {s : Nat} (hs : s < h.ships.length) {port : Int} (hp : 0 ≤ port ∧ port ≤ h.ports - 1) :
    (callsR h s port).2.2 = 0 ∧ (callsR (movH h d) s port).2.2 = 0 ∧ (callsR (movH h d) s port).2.1 = (callsR h s port).2.1 ∧
    ((callsR h s port).2.1 ≠ 2 → (callsR (movH h d) s port).1.1 = (callsR h s port).1.1 + d ∧ (callsR (movH h d) s port).1.2 = (callsR h s port).1.2 + d) := by
  have hh := hok_check (some_check e)
  have hs' : s < (movH h d).ships.length := by rw [show (movH h d).ships.length = h.ships.length from List.length_map _]; exact hs
  have hp' : 0 ≤ port ∧ port ≤ (movH h d).ports - 1 := hp
  rw [callsR_some e hs hp, callsR_some (some_mov e hd e') hs' hp', truths_mov hh hd]
  have a1 := called_mem (h := h) (s := s) (port := port) (truthsR h [])
  have a2 := called_mem (h := movH h d) (s := s) (port := port) (truthsR h [])
  have p1 := some_pos e
  have hday : ∀ t ∈ truthsR h [], _ := fun t ht => day_mov hh (truths_fok hh ht) hs port d
  generalize truthsR h [] = T at *
  generalize calledTo h T s port T.length = C at *
  generalize calledTo (movH h d) T s port T.length = C' at *
  obtain ⟨h1, h2, h3, h4⟩ := a1
  obtain ⟨g1, g2, g3, g4⟩ := a2
  have i1 : C'.2 = (T.length : Int) ↔ C.2 = (T.length : Int) := by
    rw [g1, h1]
    constructor
    · intro q t ht; have := q t ht; have := hday t ht; omega
    · intro q t ht; have := q t ht; have := hday t ht; omega
  have i2 : C'.2 = 0 ↔ C.2 = 0 := by
    rw [g2, h2]
    constructor
    · intro q t ht; have := q t ht; have := hday t ht; omega
    · intro q t ht; have := q t ht; have := hday t ht; omega
  refine ⟨rfl, rfl, settled_same i1 i2, fun q => ?_⟩
  dsimp only at q ⊢
  have hne : C.2 ≠ 0 := fun w => q ((settled_never p1).2 w)
  obtain ⟨w1, ⟨t1, m1, n1, o1⟩, t2, m2, n2, o2⟩ := h4 hne
  obtain ⟨x1, ⟨u1, k1, l1, r1⟩, u2, k2, l2, r2⟩ := g4 fun w => hne (i2.1 w)
  have y1 := hday t1 m1
  have y2 := hday t2 m2
  have y3 := hday u1 k1
  have y4 := hday u2 k2
  have z1 := x1 t1 m1 (by omega)
  have z2 := x1 t2 m2 (by omega)
  have z3 := w1 u1 k1 (by omega)
  have z4 := w1 u2 k2 (by omega)
  omega

theorem calls_span {h : RHarb} (e : someB h = true) {s : Nat} (hs : s < h.ships.length) {port : Int} (hp : 0 ≤ port ∧ port ≤ h.ports - 1) :
    (0 ≤ (callsR h s port).1.1 ∧ (callsR h s port).1.1 ≤ 60) ∧ 0 ≤ (callsR h s port).1.2 ∧ (callsR h s port).1.2 ≤ 60 := by
  have hh := hok_check (some_check e)
  rw [callsR_some e hs hp]
  obtain ⟨h1, h2, h3, h4⟩ := called_mem (h := h) (s := s) (port := port) (truthsR h [])
  have hday : ∀ t ∈ truthsR h [], _ := fun t ht => dayR_le hh (truths_fok hh ht) hs port
  dsimp only
  by_cases q : (calledTo h (truthsR h []) s port (truthsR h []).length).2 = 0
  · rw [h3 q]; decide
  · obtain ⟨_, ⟨t1, m1, n1, o1⟩, t2, m2, n2, o2⟩ := h4 q
    have := hday t1 m1
    have := hday t2 m2
    omega

theorem by_mov {h : RHarb} (e : someB h = true) {d : Int} (hd : 0 ≤ d) (e' : (checkH (movH h d)).2.2 = 0) {l : Nat} (hl : l < h.letters.length) : (byR h l).2 = 0 ∧ byR (movH h d) l = byR h l := by
  have hh := hok_check (some_check e)
  have hl' : l < (movH h d).letters.length := by rw [show (movH h d).letters.length = h.letters.length from List.length_map _]; exact hl
  rw [byR_some e hl, byR_some (some_mov e hd e') hl', truths_mov hh hd, show (movH h d).ships.length = h.ships.length from List.length_map _]
  exact ⟨rfl, rfl⟩
end Go.Proofs.Ytnfmmhmfbipkjaa.Abs

namespace Go.Proofs.Ytnfmmhmfbipkjaa.Abs
set_option linter.unusedSimpArgs false
open Go Go.RowKit Go.Proofs

/-- A harbour without reports. -/
def cutH (h : RHarb) : RHarb := { h with reports := [] }
/-- A number of a list, by turns. -/
def turnN (l : List Nat) (n : Nat) : Nat := if l.length = 0 then 0 else l[n % l.length]!
def realF (h : RHarb) (n : Nat) : List Fate := (fleetsR h.ships h.lost)[n % (fleetsR h.ships h.lost).length]!
/-- The ship by which a letter went; -1: none takes it. -/
def realB (h : RHarb) (f : List Fate) (ys : List Nat) (k : Nat) : Int := if (couldL (cutH h) f k [] h.ships.length).length = 0 then -1 else (couldL (cutH h) f k [] h.ships.length)[turnN ys k % (couldL (cutH h) f k [] h.ships.length).length]!
def realTo (h : RHarb) (f : List Fate) (ys : List Nat) (n : Nat) : List Int := (List.range n).map (realB h f ys)
theorem realTo_succ (h : RHarb) (f : List Fate) (ys : List Nat) (n : Nat) : realTo h f ys (n + 1) = realTo h f ys n ++ [realB h f ys n] := by
  unfold realTo; rw [List.range_succ, List.map_append]; rfl

/-- Which letters a ship takes. -/
def idxTo (by_ : List Int) (n : Nat) : List Nat := (List.range n).filter fun i => decide (0 ≤ by_[i]!)
def ownTo (by_ : List Int) (n : Nat) : List Int := (idxTo by_ n).map fun i => by_[i]!
def letTo (h : RHarb) (by_ : List Int) (n : Nat) : List RLet := (idxTo by_ n).map fun i => h.letters[i]!
def placeTo (by_ : List Int) (n : Nat) : List Int := (List.range by_.length).map fun i => if i < n then ((ownTo by_ i).length : Int) else 0
theorem idxTo_succ (by_ : List Int) (n : Nat) : idxTo by_ (n + 1) = if 0 ≤ by_[n]! then idxTo by_ n ++ [n] else idxTo by_ n := by
  unfold idxTo
  rw [List.range_succ, List.filter_append, List.filter_cons]
  by_cases q : 0 ≤ by_[n]!
  · rw [if_pos (decide_eq_true q), if_pos q]; rfl
  · rw [if_neg (by rw [decide_eq_true_eq]; exact q), if_neg q]; exact List.append_nil _
theorem ownTo_succ (by_ : List Int) (n : Nat) : ownTo by_ (n + 1) = if 0 ≤ by_[n]! then ownTo by_ n ++ [by_[n]!] else ownTo by_ n := by
  unfold ownTo; rw [idxTo_succ]; split <;> simp
theorem letTo_succ (h : RHarb) (by_ : List Int) (n : Nat) : letTo h by_ (n + 1) = if 0 ≤ by_[n]! then letTo h by_ n ++ [h.letters[n]!] else letTo h by_ n := by
  unfold letTo; rw [idxTo_succ]; split <;> simp
theorem idxTo_length (by_ : List Int) (n : Nat) : (idxTo by_ n).length ≤ n := by
  unfold idxTo; exact Nat.le_trans (List.length_filter_le _ _) (by simp)
theorem ownTo_length (by_ : List Int) (n : Nat) : (ownTo by_ n).length ≤ n := by unfold ownTo; rw [List.length_map]; exact idxTo_length _ _
theorem letTo_length (h : RHarb) (by_ : List Int) (n : Nat) : (letTo h by_ n).length = (idxTo by_ n).length := by unfold letTo; rw [List.length_map]
theorem placeTo_at {by_ : List Int} {n i : Nat} (hi : i < by_.length) : (placeTo by_ n)[i]! = if i < n then ((ownTo by_ i).length : Int) else 0 := by
  unfold placeTo
  rw [getD_any (by simpa using hi)]
  simp

/-- A day that is told as it was. -/
def dated1 (r : RRep) (seen day : Int) : RRep := if r.kind = seen ∧ 0 ≤ day then { r with day := day } else r
theorem dated1_kind (r : RRep) (a b : Int) : (dated1 r a b).kind = r.kind := by unfold dated1; split <;> rfl
theorem dated1_of (r : RRep) (a b : Int) : (dated1 r a b).of_ = r.of_ := by unfold dated1; split <;> rfl
theorem dated1_port (r : RRep) (a b : Int) : (dated1 r a b).port = r.port := by unfold dated1; split <;> rfl

/-- A report, as it is told in a truth. -/
def toldR (h : RHarb) (f : List Fate) (by_ : List Int) (r : RRep) : Option RRep :=
  if r.kind < 2 then (if soB (dated1 r 0 (dayR h f r.of_.toNat r.port)) (dayR h f r.of_.toNat r.port) = true then some (dated1 r 0 (dayR h f r.of_.toNat r.port)) else none)
  else if by_[r.of_.toNat]! < 0 then none
  else (if soB (dated1 r 2 (dayR h f (by_[r.of_.toNat]!).toNat (h.letters[r.of_.toNat]!).port)) (dayR h f (by_[r.of_.toNat]!).toNat (h.letters[r.of_.toNat]!).port) = true
    then some { dated1 r 2 (dayR h f (by_[r.of_.toNat]!).toNat (h.letters[r.of_.toNat]!).port) with of_ := ((ownTo by_ r.of_.toNat).length : Int) } else none)
def repTo (h : RHarb) (f : List Fate) (by_ : List Int) (n : Nat) : List RRep := (h.reports.take n).filterMap (toldR h f by_)
theorem repTo_succ {h : RHarb} {f : List Fate} {by_ : List Int} {n : Nat} (hn : n < h.reports.length) : repTo h f by_ (n + 1) = match toldR h f by_ (h.reports[n]!) with | some r => repTo h f by_ n ++ [r] | none => repTo h f by_ n := by
  unfold repTo
  rw [List.take_succ_eq_append_getElem hn, List.filterMap_append, getD_any hn]
  cases e : toldR h f by_ h.reports[n] <;> simp [e]
theorem repTo_length (h : RHarb) (f : List Fate) (by_ : List Int) (n : Nat) : (repTo h f by_ n).length ≤ n := by
  unfold repTo
  exact Nat.le_trans (List.length_filterMap_le _ _) (List.length_take_le _ _)
def toldH (h : RHarb) (f : List Fate) (by_ : List Int) : RHarb := { h with letters := letTo h by_ by_.length, reports := repTo h f by_ h.reports.length }

/-- A way in which letters can have gone. -/
structure Went (h : RHarb) (f : List Fate) (by_ : List Int) : Prop where
  f : f ∈ fleetsR h.ships h.lost
  n : by_.length = h.letters.length
  s : ∀ k, k < by_.length → by_[k]! = -1 ∨ ∃ s : Nat, by_[k]! = s ∧ s < h.ships.length ∧ shipB h k s = true

theorem repErr_zero {ports ships letters : Int} {r : RRep} : repErr ports ships letters r = 0 ↔ (0 ≤ r.kind ∧ r.kind ≤ 3) ∧ (0 ≤ r.of_ ∧ r.of_ ≤ (if r.kind < 2 then ships else letters) - 1) ∧ (0 ≤ r.port ∧ r.port ≤ ports - 1) ∧ (2 ≤ r.kind → r.port = 0) ∧ 0 ≤ r.day ∧ r.day ≤ 60 := by
  unfold repErr
  generalize (if r.kind < 2 then ships else letters) = M
  constructor
  · intro e
    split at e
    · cases e
    · rename_i h1
      rw [Bool.not_eq_true, offP_false] at h1
      split at e
      · cases e
      · rename_i h2
        rw [Bool.not_eq_true, Bool.or_eq_false_iff, offP_false, offP_false] at h2
        split at e
        · cases e
        · rename_i h3
          split at e
          · cases e
          · rename_i h4
            rw [Bool.not_eq_true, offP_false] at h4
            refine ⟨h1, h2.1, h2.2, fun q => ?_, h4⟩
            by_cases w : r.port = 0
            · exact w
            · exact absurd ⟨q, w⟩ h3
  · rintro ⟨h1, h2, h3, h4, h5⟩
    rw [if_neg (by rw [Bool.not_eq_true, offP_false]; exact h1), if_neg (by rw [Bool.not_eq_true, Bool.or_eq_false_iff, offP_false, offP_false]; exact ⟨h2, h3⟩), if_neg (fun w => w.2 (h4 w.1)), if_neg (by rw [Bool.not_eq_true, offP_false]; exact h5)]

theorem lettersE_zero {h : RHarb} : (lettersE h).2 = 0 ↔ ∀ x ∈ h.letters, letErr h.ports h.ships x = 0 := by
  unfold lettersE
  rw [failFrom_zero]
  constructor
  · intro q x hx
    obtain ⟨i, hi, rfl⟩ := List.mem_iff_getElem.1 hx
    exact q i hi
  · intro q i hi
    exact q _ (List.getElem_mem hi)

theorem idx_at {by_ : List Int} {n i : Nat} (hi : i < n) (q : 0 ≤ by_[i]!) : (idxTo by_ i).length < (idxTo by_ n).length ∧ (idxTo by_ n)[(idxTo by_ i).length]! = i := by
  have e : idxTo by_ n = idxTo by_ i ++ i :: ((List.range' (i + 1) (n - (i + 1))).filter fun i => decide (0 ≤ by_[i]!)) := by
    unfold idxTo
    have : List.range n = List.range i ++ i :: List.range' (i + 1) (n - (i + 1)) := by
      obtain ⟨k, rfl⟩ : ∃ k, n = i + (k + 1) := ⟨n - (i + 1), by omega⟩
      rw [show i + (k + 1) - (i + 1) = k by omega, List.range_eq_range', List.range_eq_range', ← List.range'_append_1, Nat.zero_add, List.range'_succ]
    rw [this, List.filter_append, List.filter_cons, if_pos (decide_eq_true q)]
  have hl : (idxTo by_ i).length < (idxTo by_ n).length := by rw [e]; simp
  refine ⟨hl, ?_⟩
  rw [getD_any hl]
  simp only [e]
  rw [List.getElem_append_right (Nat.le_refl _)]
  simp

theorem mem_idx {by_ : List Int} {n i : Nat} : i ∈ idxTo by_ n ↔ i < n ∧ 0 ≤ by_[i]! := by unfold idxTo; simp
theorem idx_get {by_ : List Int} {n j : Nat} (hj : j < (idxTo by_ n).length) : (idxTo by_ n)[j]! < n ∧ 0 ≤ by_[(idxTo by_ n)[j]!]! := by
  have : (idxTo by_ n)[j]! ∈ idxTo by_ n := by rw [getD_any hj]; exact List.getElem_mem hj
  exact mem_idx.1 this

theorem dated1_day {r : RRep} {a d : Int} (h1 : 0 ≤ r.day ∧ r.day ≤ 60) (h2 : d ≤ 60) : 0 ≤ (dated1 r a d).day ∧ (dated1 r a d).day ≤ 60 := by
  unfold dated1; split
  · rename_i q; exact ⟨q.2, h2⟩
  · exact h1

theorem went_ship {h : RHarb} (_e : (checkH h).2.2 = 0) {f : List Fate} {by_ : List Int} (w : Went h f by_) {k : Nat} (hk : k < by_.length) (q : 0 ≤ by_[k]!) : (by_[k]!).toNat < h.ships.length ∧ shipB h k (by_[k]!).toNat = true ∧ by_[k]! = ((by_[k]!).toNat : Int) := by
  rcases w.s k hk with h1 | ⟨s, h1, h2, h3⟩
  · omega
  · rw [h1]; exact ⟨h2, h3, rfl⟩

theorem rep_mem {h : RHarb} (_e : (checkH h).2.2 = 0) {f : List Fate} {by_ : List Int} (_w : Went h f by_) {r' : RRep} (q : r' ∈ (toldH h f by_).reports) : ∃ r ∈ h.reports, toldR h f by_ r = some r' := by
  have q : r' ∈ (h.reports.take h.reports.length).filterMap (toldR h f by_) := q
  rw [List.take_length] at q
  exact List.mem_filterMap.1 q

theorem told_letter {h : RHarb} (_e : (checkH h).2.2 = 0) {f : List Fate} {by_ : List Int} (_w : Went h f by_) {j : Nat} (hj : j < (idxTo by_ by_.length).length) : (toldH h f by_).letters[j]! = h.letters[(idxTo by_ by_.length)[j]!]! := map_at _ hj

section
variable {h : RHarb} (e : (checkH h).2.2 = 0) {f : List Fate} {by_ : List Int} (w : Went h f by_)
include e w

theorem went_fok : FOk h f := fleets_fok (hok_check e) w.f
theorem went_day {s : Nat} (hs : s < h.ships.length) (port : Int) : -1 ≤ dayR h f s port ∧ dayR h f s port ≤ 43 := dayR_le (hok_check e) (went_fok e w) hs port
/-- What a report that is told is like. -/
theorem told_is {r r' : RRep} (hr : r ∈ h.reports) (q : toldR h f by_ r = some r') : r'.kind = r.kind ∧ r'.port = r.port ∧ (0 ≤ r'.day ∧ r'.day ≤ 60) ∧
    ((r.kind < 2 ∧ r'.of_ = r.of_ ∧ soB r' (dayR h f r.of_.toNat r.port) = true) ∨
      (2 ≤ r.kind ∧ r.of_.toNat < by_.length ∧ 0 ≤ by_[r.of_.toNat]! ∧ r'.of_ = ((idxTo by_ r.of_.toNat).length : Int) ∧ soB r' (dayR h f (by_[r.of_.toNat]!).toNat (h.letters[r.of_.toNat]!).port) = true)) := by
  have h0 := repErr_zero.1 (reportsE_zero.1 (checkH_parts e).2.2.2.2.2.2 r hr)
  unfold toldR at q
  by_cases k : r.kind < 2
  · rw [if_pos k] at q
    rw [if_pos k] at h0
    have hd := went_day e w (s := r.of_.toNat) (by omega) r.port
    split at q
    · rename_i q2
      injection q with q
      subst q
      exact ⟨dated1_kind _ _ _, dated1_port _ _ _, dated1_day h0.2.2.2.2 (by omega), .inl ⟨k, dated1_of _ _ _, q2⟩⟩
    · cases q
  · rw [if_neg k] at q
    rw [if_neg k] at h0
    have hn := w.n
    split at q
    · cases q
    · rename_i k2
      have hs := went_ship e w (k := r.of_.toNat) (by omega) (by omega)
      have hd := went_day e w hs.1 (h.letters[r.of_.toNat]!).port
      split at q
      · rename_i q2
        injection q with q
        subst q
        refine ⟨dated1_kind _ _ _, dated1_port _ _ _, dated1_day h0.2.2.2.2 (by omega), .inr ⟨by omega, by omega, by omega, ?_, q2⟩⟩
        show ((ownTo by_ r.of_.toNat).length : Int) = _
        unfold ownTo; rw [List.length_map]
      · cases q

theorem told_check : (checkH (toldH h f by_)).2.2 = 0 := by
  obtain ⟨e1, e2, e3, e4, e5, e6, e7⟩ := checkH_parts e
  have hn := w.n
  have hl : (toldH h f by_).letters.length = (idxTo by_ by_.length).length := letTo_length h by_ by_.length
  refine checkH_of ⟨e1, e2, e3, ?_, ?_, ?_, ?_⟩
  · rw [hl]; have := idxTo_length by_ by_.length; omega
  · rw [lettersE_zero] at e5 ⊢
    intro x hx
    obtain ⟨i, hi, rfl⟩ := List.mem_map.1 hx
    have hi := (mem_idx.1 hi).1
    refine e5 _ ?_
    rw [getD_any (by omega)]; exact List.getElem_mem _
  · exact Nat.le_trans (repTo_length h f by_ _) e6
  · rw [reportsE_zero] at e7 ⊢
    intro r' hr'
    obtain ⟨r, hr, q⟩ := rep_mem e w hr'
    have h0 := repErr_zero.1 (e7 r hr)
    obtain ⟨t1, t2, t3, t4⟩ := told_is e w hr q
    rw [repErr_zero, t1, t2]
    refine ⟨h0.1, ?_, h0.2.2.1, h0.2.2.2.1, t3⟩
    rcases t4 with ⟨k, t4, _⟩ | ⟨k, t4, t5, t6, _⟩
    · rw [t4, if_pos k]; rw [if_pos k] at h0; exact h0.2.1
    · rw [t6, if_neg (by omega), hl]
      have := (idx_at t4 t5).1
      omega

theorem told_can {j : Nat} (hj : j < (idxTo by_ by_.length).length) : canB (toldH h f by_) f j [] (by_[(idxTo by_ by_.length)[j]!]!).toNat = true := by
  obtain ⟨i1, i2⟩ := idx_get hj
  obtain ⟨s1, s2, s3⟩ := went_ship e w i1 i2
  unfold canB
  rw [Bool.and_eq_true, reps_list]
  constructor
  · unfold shipB at s2 ⊢
    rw [told_letter e w hj]
    exact s2
  · rw [List.all_eq_true]
    intro r' hr'
    obtain ⟨r, hr, q⟩ := rep_mem e w hr'
    obtain ⟨t1, t2, t3, t4⟩ := told_is e w hr q
    rw [Bool.or_eq_true, Bool.not_eq_true']
    by_cases k : 2 ≤ r'.kind ∧ r'.of_ = (j : Int)
    · right
      rcases t4 with ⟨k2, _⟩ | ⟨_, t4, t5, t6, t7⟩
      · omega
      · obtain ⟨k3, k4⟩ := idx_at t4 t5
        have hjj : j = (idxTo by_ r.of_.toNat).length := by omega
        rw [told_letter e w hj, hjj, k4]
        exact t7
    · left
      rw [← Bool.not_eq_true, Bool.and_eq_true, decide_eq_true_eq, decide_eq_true_eq]
      exact k

theorem told_true : trueB (toldH h f by_) [] f = true := by
  unfold trueB goB
  rw [Bool.and_eq_true]
  constructor
  · rw [said_list, List.all_eq_true]
    intro r' hr'
    obtain ⟨r, hr, q⟩ := rep_mem e w hr'
    obtain ⟨t1, t2, t3, t4⟩ := told_is e w hr q
    rw [Bool.or_eq_true, Bool.not_eq_true']
    rcases t4 with ⟨k, t4, t5⟩ | ⟨k, _⟩
    · right; rw [t4, t2]; exact t5
    · left; exact decide_eq_false (by omega)
  · rw [List.all_eq_true]
    intro j hj
    have hj : j < (idxTo by_ by_.length).length := by have := List.mem_range.1 hj; rw [show (toldH h f by_).letters.length = (idxTo by_ by_.length).length from letTo_length h by_ by_.length] at this; exact this
    obtain ⟨i1, i2⟩ := idx_get hj
    refine decide_eq_true (List.length_pos_of_mem (mem_could.2 ⟨_, rfl, (went_ship e w i1 i2).1, told_can e w hj⟩))

/-- What was is a truth of what is told. -/
theorem told_mem : truOf (toldH h f by_) [] f ∈ truthsR (toldH h f by_) [] := truOf_mem (h := toldH h f by_) w.f (told_true e w)
theorem told_some : someB (toldH h f by_) = true := by
  unfold someB validB okT
  rw [decide_eq_true (told_check e w), decide_eq_true (List.length_pos_of_mem (told_mem e w))]; rfl
theorem told_own {j : Nat} (hj : j < (idxTo by_ by_.length).length) : (ownTo by_ by_.length)[j]! ∈ (truOf (toldH h f by_) [] f).by_[j]! ∧ (ownTo by_ by_.length)[j]! = (((ownTo by_ by_.length)[j]!).toNat : Int) ∧ ((ownTo by_ by_.length)[j]!).toNat < h.ships.length := by
  have ho : (ownTo by_ by_.length)[j]! = by_[(idxTo by_ by_.length)[j]!]! := map_at _ hj
  obtain ⟨i1, i2⟩ := idx_get hj
  obtain ⟨s1, s2, s3⟩ := went_ship e w i1 i2
  rw [truths_at (told_mem e w) (by rw [show (toldH h f by_).letters.length = (idxTo by_ by_.length).length from letTo_length h by_ by_.length]; exact hj), ho]
  exact ⟨mem_could.2 ⟨_, s3, s1, told_can e w hj⟩, s3, s1⟩

theorem told_wrong : wrongR (toldH h f by_) = ([], 0) := by
  unfold wrongR
  rw [if_pos (told_check e w), wrongFrom_step _ (Nat.zero_le _)]
  have : okT (toldH h f by_) [] = true := by unfold okT; exact decide_eq_true (List.length_pos_of_mem (told_mem e w))
  have h2 : (choicesL (toldH h f by_).reports.length 0).find? (okT (toldH h f by_)) = some [] := by
    show List.find? (okT (toldH h f by_)) [[]] = some []
    rw [List.find?_cons_of_pos this]
  rw [h2]
  rfl

theorem told_sunk : (sunkR (toldH h f by_)).2.2 = 0 ∧ (∀ s : Nat, s < h.ships.length → ((s : Int) ∈ lostL (toldH h f by_) f f.length → (s : Int) ∈ (sunkR (toldH h f by_)).2.1) ∧ ((s : Int) ∉ lostL (toldH h f by_) f f.length → (s : Int) ∉ (sunkR (toldH h f by_)).1)) := by
  have hm := told_mem e w
  rw [sunkR_some (told_some e w)]
  refine ⟨rfl, fun s hs => ⟨fun q => mem_may.2 ⟨s, rfl, hs, _, hm, q⟩, fun q k => ?_⟩⟩
  obtain ⟨s', h1, _, h3⟩ := mem_sure.1 k
  have : s = s' := by omega
  subst this
  exact q (h3 _ hm)

theorem told_calls {s : Nat} (hs : s < h.ships.length) {port : Int} (hp : 0 ≤ port ∧ port ≤ h.ports - 1) :
    (callsR (toldH h f by_) s port).2.2 = 0 ∧ (0 ≤ dayR (toldH h f by_) f s port → (callsR (toldH h f by_) s port).2.1 ≠ 2 ∧ (callsR (toldH h f by_) s port).1.1 ≤ dayR (toldH h f by_) f s port ∧ dayR (toldH h f by_) f s port ≤ (callsR (toldH h f by_) s port).1.2) ∧
    (dayR (toldH h f by_) f s port < 0 → (callsR (toldH h f by_) s port).2.1 ≠ 1) := by
  have hm := told_mem e w
  have p1 := some_pos (told_some e w)
  have hs' : s < (toldH h f by_).ships.length := hs
  rw [callsR_some (told_some e w) hs' hp]
  have a1 := called_mem (h := toldH h f by_) (s := s) (port := port) (truthsR (toldH h f by_) [])
  generalize truthsR (toldH h f by_) [] = T at *
  generalize calledTo (toldH h f by_) T s port T.length = C at *
  obtain ⟨h1, h2, h3, h4⟩ := a1
  refine ⟨rfl, fun q => ?_, fun q k => ?_⟩
  · have hne : C.2 ≠ 0 := fun z => by have := h2.1 z _ hm; have h5 : dayR (toldH h f by_) f s port < 0 := this; omega
    refine ⟨fun z => hne ((settled_never p1).1 z), ?_⟩
    exact (h4 hne).1 _ hm q
  · have := h1.1 (settled_must.1 k) _ hm
    have h5 : 0 ≤ dayR (toldH h f by_) f s port := this
    omega

theorem told_comes {j : Nat} (hj : j < (idxTo by_ by_.length).length) : dayR (toldH h f by_) f ((ownTo by_ by_.length)[j]!).toNat ((toldH h f by_).letters[j]!).port ∈ comesE (toldH h f by_) j := by
  unfold comesE
  refine List.mem_flatMap.2 ⟨_, told_mem e w, ?_⟩
  unfold rowE
  exact List.mem_map.2 ⟨_, (told_own e w hj).1, rfl⟩

theorem told_come {j : Nat} (hj : j < (idxTo by_ by_.length).length) {d : Int} (hd : 0 ≤ d ∧ d ≤ 60) :
    (comeR (toldH h f by_) j d).2 = 0 ∧ (untilB (dayR (toldH h f by_) f ((ownTo by_ by_.length)[j]!).toNat ((toldH h f by_).letters[j]!).port) d = true → (comeR (toldH h f by_) j d).1 ≠ 2) ∧
    (untilB (dayR (toldH h f by_) f ((ownTo by_ by_.length)[j]!).toNat ((toldH h f by_).letters[j]!).port) d = false → (comeR (toldH h f by_) j d).1 ≠ 1) := by
  have hj' : j < (toldH h f by_).letters.length := by rw [show (toldH h f by_).letters.length = (idxTo by_ by_.length).length from letTo_length h by_ by_.length]; exact hj
  have hm := told_comes e w hj
  have p := comesE_pos (told_some e w) hj'
  rw [comeR_some (told_some e w) hj' hd]
  refine ⟨rfl, fun q k => ?_, fun q k => ?_⟩
  · rw [settled_never (by omega), cnt_none] at k
    rw [k _ hm] at q; cases q
  · rw [settled_must, cnt_all] at k
    rw [k _ hm] at q; cases q

theorem told_by {j : Nat} (hj : j < (idxTo by_ by_.length).length) : (byR (toldH h f by_) j).2 = 0 ∧ (ownTo by_ by_.length)[j]! ∈ (byR (toldH h f by_) j).1 := by
  have hj' : j < (toldH h f by_).letters.length := by rw [show (toldH h f by_).letters.length = (idxTo by_ by_.length).length from letTo_length h by_ by_.length]; exact hj
  rw [byR_some (told_some e w) hj']
  obtain ⟨o1, o2, o3⟩ := told_own e w hj
  refine ⟨rfl, mem_met.2 ⟨_, o2, o3, _, told_mem e w, ?_⟩⟩
  rw [← o2]
  exact o1
end

/-! ### What was -/
theorem lostN_zero_of : ∀ {l : List RShip} {f : List Fate}, (∀ s, s < l.length → s < f.length → ((l[s]!).calls.length : Int) ≤ (f[s]!).made) → lostN l f = 0
  | [], f, _ => by cases f <;> rfl
  | _ :: _, [], _ => rfl
  | a :: l, x :: f, q => by
    have h0 := q 0 (by simp) (by simp)
    have h1 := lostN_zero_of (l := l) (f := f) fun s h1 h2 => by
      have := q (s + 1) (by simpa using h1) (by simpa using h2)
      simpa using this
    simp only [lostN, h1]
    have h0 : (a.calls.length : Int) ≤ x.made := h0
    unfold sinksI
    rw [if_neg (by omega)]
    rfl

theorem fok_best : ∀ (l : List RShip), (∀ s ∈ l, s.lo ≤ s.hi) → fokB l (l.map fun s => Fate.mk s.lo s.calls.length) = true
  | [], _ => rfl
  | s :: l, q => by
    have := q s (by simp)
    simp only [List.map_cons, fokB, Bool.and_eq_true, decide_eq_true_eq]
    exact ⟨⟨by omega, by omega⟩, fok_best l fun x hx => q x (List.mem_cons_of_mem _ hx)⟩

theorem fleets_pos {h : RHarb} (hh : HOk h) : 0 < (fleetsR h.ships h.lost).length := by
  refine List.length_pos_of_mem (a := h.ships.map fun s => Fate.mk s.lo s.calls.length) (mem_fleetsR.2 ⟨fok_best _ fun s hs => ?_, ?_⟩)
  · obtain ⟨i, hi, rfl⟩ := List.mem_iff_getElem.1 hs
    have := (hh.ship i hi).late
    rw [getD_any hi] at this
    exact this.2.1
  · rw [lostN_zero_of]
    · exact hh.l.1
    · intro s h1 h2
      rw [map_at (f := fun s : RShip => Fate.mk s.lo s.calls.length) h1]
      exact Int.le_refl _

theorem real_went {h : RHarb} (e : (checkH h).2.2 = 0) (n : Nat) (ys : List Nat) : Went h (realF h n) (realTo h (realF h n) ys h.letters.length) := by
  have hh := hok_check e
  have hf := fleets_pos hh
  refine ⟨?_, by simp [realTo], fun k hk => ?_⟩
  · unfold realF
    have hm : n % (fleetsR h.ships h.lost).length < (fleetsR h.ships h.lost).length := Nat.mod_lt _ hf
    rw [getD_any hm]; exact List.getElem_mem hm
  · have hk : k < h.letters.length := by simpa [realTo] using hk
    have e1 : (realTo h (realF h n) ys h.letters.length)[k]! = realB h (realF h n) ys k := by
      unfold realTo
      rw [getD_any (by simpa using hk)]
      simp
    rw [e1]
    unfold realB
    split
    · exact .inl rfl
    · rename_i q
      right
      have hm : turnN ys k % (couldL (cutH h) (realF h n) k [] h.ships.length).length < (couldL (cutH h) (realF h n) k [] h.ships.length).length := Nat.mod_lt _ (by omega)
      have hx : (couldL (cutH h) (realF h n) k [] h.ships.length)[turnN ys k % (couldL (cutH h) (realF h n) k [] h.ships.length).length]! ∈ couldL (cutH h) (realF h n) k [] h.ships.length := by rw [getD_any hm]; exact List.getElem_mem hm
      obtain ⟨s, h1, h2, h3⟩ := mem_could.1 hx
      unfold canB at h3
      rw [Bool.and_eq_true] at h3
      exact ⟨s, h1, h2, h3.1⟩
end Go.Proofs.Ytnfmmhmfbipkjaa.Abs

namespace Go.Proofs.Ytnfmmhmfbipkjaa.Abs
set_option linter.unusedSimpArgs false
set_option maxHeartbeats 4000000
set_option maxRecDepth 100000
open Go Go.RowKit Go.Proofs

def u8s (l : List Nat) : List AV := l.map fun (n : Nat) => AV.int .u8 n
theorem ixU8 (l : List Nat) (i : Int) (K : AV → Prop) : VIdx (u8s l) i K ↔ (0 ≤ i ∧ i.toNat < l.length) ∧ K (.int .u8 (l[i.toNat]! : Nat)) := VIdx_map (fun (n : Nat) => AV.int .u8 n) l i K
theorem u8s_length (l : List Nat) : (u8s l).length = l.length := List.length_map _

theorem turn_c (l : List Nat) (hl : ∀ x ∈ l, x < 256) (n : Nat) : PCall Try.prog 100 [.slice 1 (u8s l), .int .i64 n] (.int .i64 (turnN l n)) := by
  intro m
  have e0 : turnN l n = if l.length = 0 then 0 else l[n % l.length]! := rfl
  have hat := fun (q : 0 < l.length) => hl (l[n % l.length]!) (by rw [getD_any (Nat.mod_lt _ q)]; exact List.getElem_mem _)
  have hm := fun (q : 0 < l.length) => Nat.mod_lt n q
  have he : ((n : Int) % (l.length : Int)) = ((n % l.length : Nat) : Int) := (Int.natCast_emod n l.length).symm
  (refine acall_intro (E := envC (modeAt [] []) false []) (envCOk _ _ _) rfl Try.func100 rfl Try.call100 (by kernel_rfl) (by simp [Try.ntmps100]) ?_; simp only [Try.f100];  simp (maxSteps := 4000000) only [↓VP, VQ, ite_self, Nat.reduceEqDiff, Nat.reduceAdd, Nat.reduceSub, Nat.reduceMul, Nat.reduceLeDiff, Nat.reduceLT, Nat.reduceBEq, Int.reduceLE, Int.reduceLT, Int.reduceNeg, Int.reduceAdd, Int.reduceSub, Int.reduceToNat, ↓reduceIte, reduceCtorEq, ↓ixShip, ↓ixCall, ↓ixLet, ↓ixRep, Int.reduceEq, ↓ixU8, u8s_length, he])
  repeat' (first | intro _ | refine And.intro ?_ ?_)
  all_goals try (first | omega | (simp only [List.length_map, List.length_cons, List.length_nil, List.length_append, Nat.zero_add]; omega) | exact nnC _ | exact nlC (by decide) _ | exact nbC rfl)
  all_goals first
    | (rw [e0, if_pos (by omega)]; rfl; done)
    | (rw [e0, if_neg (by omega)]; done)
    | (have := hat (by omega); omega)

theorem cut_ok {h : RHarb} (hh : HOk h) : HOk (cutH h) := ⟨hh.p, hh.l, hh.n, hh.ship, hh.nl, hh.letter, Nat.zero_le _, fun _ hi => absurd hi (Nat.not_lt_zero _)⟩
theorem cut_fok {h : RHarb} {f : List Fate} (hf : FOk h f) : FOk (cutH h) f := ⟨hf.n, hf.late, hf.made⟩

theorem natModL (a b : Nat) : ((a : Int) % (b : Int)) = ((a % b : Nat) : Int) := (Int.natCast_emod a b).symm

theorem real_c (h : RHarb) (hh : HOk h) (n : Nat) (hn : n < 65536) (ys : List Nat) (hy : ∀ x ∈ ys, x < 256) :
    PCall Try.prog 37 [harbA h, .agg [.int .u16 n, .slice 1 (u8s ys)]] (.tuple [fatesA (realF h n), ints (realTo h (realF h n) ys h.letters.length)]) := by
  intro m
  have hp := fleets_pos hh
  have hnl := hh.nl
  have a1 := fleet_c (cutH h) (cut_ok hh)
  have hF : fleetsR (cutH h).ships (cutH h).lost = fleetsR h.ships h.lost := rfl
  have hlen := fleets_len hh
  have hmod := natModL n (fleetsR h.ships h.lost).length
  have hlt := Nat.mod_lt n hp
  have hR : realF h n = (fleetsR h.ships h.lost)[n % (fleetsR h.ships h.lost).length]! := rfl
  have hfk : FOk h (realF h n) := by
    rw [hR, getD_any hlt]
    exact fleets_fok hh (List.getElem_mem hlt)
  rw [hF] at a1
  generalize realF h n = f at *
  generalize fleetsR h.ships h.lost = Fs at *
  generalize n % Fs.length = c at *
  have b1 := fun (k : Nat) (hk : k < h.letters.length) => could_c (cutH h) (cut_ok hh) f (cut_fok hfk) k hk []
  have t1 := fun k => turn_c ys hy k
  have hrs := realTo_succ h f ys
  have hrb : ∀ k, realB h f ys k = if (couldL (cutH h) f k [] (cutH h).ships.length).length = 0 then -1 else (couldL (cutH h) f k [] (cutH h).ships.length)[turnN ys k % (couldL (cutH h) f k [] (cutH h).ships.length).length]! := fun k => rfl
  have hcl := fun k => couldL_length (cutH h) f k [] (cutH h).ships.length
  have hns := hh.n
  have hcn : (cutH h).ships.length = h.ships.length := rfl
  generalize (cutH h).ships.length = N at *
  generalize hC : couldL (cutH h) f = C at *
  clear hC hF
  simp only [harbA, harbL, fatesA, fleetsA, ints, cutH, List.map_nil] at *
  (refine acall_intro (E := envC (modeAt [2] []) false []) (envCOk _ _ _) rfl Try.func37 rfl Try.call37 (by kernel_rfl) (by simp [Try.ntmps37]) ?_; simp only [Try.f37];  simp (maxSteps := 4000000) only [↓VP, VQ, ite_self, Nat.reduceEqDiff, Nat.reduceAdd, Nat.reduceSub, Nat.reduceMul, Nat.reduceLeDiff, Nat.reduceLT, Nat.reduceBEq, Int.reduceLE, Int.reduceLT, Int.reduceNeg, Int.reduceAdd, Int.reduceSub, Int.reduceToNat, ↓reduceIte, reduceCtorEq, ↓ixShip, ↓ixCall, ↓ixLet, ↓ixRep, Int.reduceEq, hmod])
  (refine ACall.pure (a1) ?_; try simp (maxSteps := 4000000) only [↓VP, VQ, ite_self, Nat.reduceEqDiff, Nat.reduceAdd, Nat.reduceSub, Nat.reduceMul, Nat.reduceLeDiff, Nat.reduceLT, Nat.reduceBEq, Int.reduceLE, Int.reduceLT, Int.reduceNeg, Int.reduceAdd, Int.reduceSub, Int.reduceToNat, ↓reduceIte, reduceCtorEq, ↓ixShip, ↓ixCall, ↓ixLet, ↓ixRep, eq_self, decide_true, decide_false, if_true, if_false, not_true_eq_false, List.append_eq, hmod, ↓ixFates])
  repeat' (first | intro _ | refine And.intro ?_ ?_)
  all_goals try (first | omega | (simp only [List.length_map, List.length_cons, List.length_nil, List.length_append, Nat.zero_add]; omega) | exact nnC _ | exact nlC (by decide) _ | exact nbC rfl)
  rw [← hR]
  refine aloop (envCOk _ _ _) (fun k : Nat => ⟨[(2, .loc 2 0), (3, .v (.eptr [.int .u16 n, .slice 1 (u8s ys)])), (7, .v (.slice 2 (f.map fateA))), (8, .v (.slice 1 ((realTo h f ys k).map (AV.int .i64)))), (9, .v (.int .i64 k))], [8], [(2, [.int .i64 h.ports, .int .i64 h.lost, .slice 5 (h.ships.map shipA), .slice 3 (h.letters.map letA), .slice 4 []])], m⟩)
    (fun k => k ≤ h.letters.length) (fun k => h.letters.length - k) 0 (fun _ => rfl) (by simp) (by (simp only [Fits, fitsV, fitsO, fitsL, ↓upd, ↓lookV, ↓lookO, ↓lookL, Nat.reduceEqDiff, ↓reduceIte, ints, and_true, true_and, Option.some.injEq]); simp [realTo]) ?_
  intro k hk
  have hrs1 := hrs k
  have hrb1 := hrb k
  have b2 := b1 k
  have t2 := t1 k
  have hcl1 := hcl k
  have hrl : (realTo h f ys k).length = k := by simp [realTo]
  generalize C k [] N = L at *
  simp (maxSteps := 4000000) only [↓VP, VQ, ite_self, Nat.reduceEqDiff, Nat.reduceAdd, Nat.reduceSub, Nat.reduceMul, Nat.reduceLeDiff, Nat.reduceLT, Nat.reduceBEq, Int.reduceLE, Int.reduceLT, Int.reduceNeg, Int.reduceAdd, Int.reduceSub, Int.reduceToNat, ↓reduceIte, reduceCtorEq, ↓ixShip, ↓ixCall, ↓ixLet, ↓ixRep]
  repeat' (first | intro _ | refine And.intro ?_ ?_)
  all_goals try (first | omega | (simp only [List.length_map, List.length_cons, List.length_nil, List.length_append, Nat.zero_add]; omega) | exact nnC _ | exact nlC (by decide) _ | exact nbC rfl)
  · have hkl : k < h.letters.length := by omega
    have b3 := b2 hkl
    have hml := natModL (turnN ys k) L.length
    ((refine ACall.pure (b3) ?_; try simp (maxSteps := 4000000) only [↓VP, VQ, ite_self, Nat.reduceEqDiff, Nat.reduceAdd, Nat.reduceSub, Nat.reduceMul, Nat.reduceLeDiff, Nat.reduceLT, Nat.reduceBEq, Int.reduceLE, Int.reduceLT, Int.reduceNeg, Int.reduceAdd, Int.reduceSub, Int.reduceToNat, ↓reduceIte, reduceCtorEq, ↓ixShip, ↓ixCall, ↓ixLet, ↓ixRep]); try simp (maxSteps := 4000000) only [↓VP, VQ, ite_self, Nat.reduceEqDiff, Nat.reduceAdd, Nat.reduceSub, Nat.reduceMul, Nat.reduceLeDiff, Nat.reduceLT, Nat.reduceBEq, Int.reduceLE, Int.reduceLT, Int.reduceNeg, Int.reduceAdd, Int.reduceSub, Int.reduceToNat, ↓reduceIte, reduceCtorEq, ↓ixShip, ↓ixCall, ↓ixLet, ↓ixRep, eq_self, decide_true, decide_false, if_true, if_false, not_true_eq_false, List.append_eq])
    repeat' (first | intro _ | refine And.intro ?_ ?_)
    all_goals try (first | omega | (simp only [List.length_map, List.length_cons, List.length_nil, List.length_append, Nat.zero_add]; omega) | exact nnC _ | exact nlC (by decide) _ | exact nbC rfl)
    · rw [if_neg (by omega)] at hrb1
      have hlt2 := Nat.mod_lt (turnN ys k) (show 0 < L.length by omega)
      (refine ACall.pure (t2) ?_; try simp (maxSteps := 4000000) only [↓VP, VQ, ite_self, Nat.reduceEqDiff, Nat.reduceAdd, Nat.reduceSub, Nat.reduceMul, Nat.reduceLeDiff, Nat.reduceLT, Nat.reduceBEq, Int.reduceLE, Int.reduceLT, Int.reduceNeg, Int.reduceAdd, Int.reduceSub, Int.reduceToNat, ↓reduceIte, reduceCtorEq, ↓ixShip, ↓ixCall, ↓ixLet, ↓ixRep, eq_self, decide_true, decide_false, if_true, if_false, not_true_eq_false, List.append_eq, hml, ↓ixZ])
      repeat' (first | intro _ | refine And.intro ?_ ?_)
      all_goals try (first | omega | (simp only [List.length_map, List.length_cons, List.length_nil, List.length_append, Nat.zero_add]; omega) | exact nnC _ | exact nlC (by decide) _ | exact nbC rfl)
      (refine ⟨k + 1, by first | omega | (dsimp only; omega), by dsimp only; omega, ?_⟩; (simp only [Fits, fitsV, fitsO, fitsL, ↓upd, ↓lookV, ↓lookO, ↓lookL, Nat.reduceEqDiff, ↓reduceIte, ints, and_true, true_and, Option.some.injEq]); try simp [hrs1, hrb1])
    · rw [if_pos (by omega)] at hrb1
      (refine ⟨k + 1, by first | omega | (dsimp only; omega), by dsimp only; omega, ?_⟩; (simp only [Fits, fitsV, fitsO, fitsL, ↓upd, ↓lookV, ↓lookO, ↓lookL, Nat.reduceEqDiff, ↓reduceIte, ints, and_true, true_and, Option.some.injEq]); try simp [hrs1, hrb1])
  · have hkl : k = h.letters.length := by omega
    subst hkl
    rfl
end Go.Proofs.Ytnfmmhmfbipkjaa.Abs

namespace Go.Proofs.Ytnfmmhmfbipkjaa.Abs
set_option linter.unusedSimpArgs false
set_option maxHeartbeats 4000000
set_option maxRecDepth 100000
open Go Go.RowKit Go.Proofs

theorem overlay_set {l : List AV} {i : Nat} (hi : i < l.length) (x : AV) : overlay l i [x] = l.set i x := by
  unfold overlay
  rw [List.set_eq_take_append_cons_drop, if_pos hi, List.append_assoc]
  rfl
theorem placeTo_get {by_ : List Int} {n j : Nat} (hj : j < (placeTo by_ n).length) : (placeTo by_ n)[j] = if j < n then ((ownTo by_ j).length : Int) else 0 := by simp [placeTo]
theorem placeTo_store {by_ : List Int} {i : Nat} (hi : i < by_.length) : List.take i ((placeTo by_ i).map (AV.int .i64)) ++ [.int .i64 ((ownTo by_ i).length : Nat)] ++ List.drop (i + 1) ((placeTo by_ i).map (AV.int .i64)) = (placeTo by_ (i + 1)).map (AV.int .i64) := by
  show overlay ((placeTo by_ i).map (AV.int .i64)) i [.int .i64 ((ownTo by_ i).length : Nat)] = _
  rw [overlay_set (by simpa [placeTo] using hi)]
  refine List.ext_getElem (by simp [placeTo]) fun j h1 h2 => ?_
  have hj : j < by_.length := by simpa [placeTo] using h2
  rw [List.getElem_set]
  simp only [List.getElem_map, placeTo_get]
  by_cases q : i = j
  · subst q; rw [if_pos rfl, if_pos (by omega)]
  · rw [if_neg q]
    by_cases q2 : j < i
    · rw [if_pos q2, if_pos (by omega)]
    · rw [if_neg q2, if_neg (by omega)]
theorem placeTo_zero (by_ : List Int) : (placeTo by_ 0).map (AV.int .i64) = List.replicate by_.length (AV.int .i64 0) := by
  refine List.eq_replicate_iff.2 ⟨by simp [placeTo], fun b hb => ?_⟩
  unfold placeTo at hb
  simp only [List.mem_map, List.mem_range] at hb
  obtain ⟨a, ⟨j, _, rfl⟩, rfl⟩ := hb
  rw [if_neg (Nat.not_lt_zero j)]

theorem placeTo_drop {by_ : List Int} {n j : Nat} (hj : j < by_.length) (hn : j < n) : ∃ r, List.drop j ((placeTo by_ n).map (AV.int .i64)) = .int .i64 ((ownTo by_ j).length : Nat) :: r := by
  have hl : j < ((placeTo by_ n).map (AV.int .i64)).length := by simpa [placeTo] using hj
  refine ⟨List.drop (j + 1) ((placeTo by_ n).map (AV.int .i64)), ?_⟩
  rw [List.drop_eq_getElem_cons hl]
  simp only [List.getElem_map, placeTo_get, if_pos hn]

theorem told_c (h : RHarb) (ec : (checkH h).2.2 = 0) (f : List Fate) (by_ : List Int) (w : Went h f by_) :
    PCall Try.prog 38 [harbA h, fatesA f, ints by_] (.tuple [harbA (toldH h f by_), ints (ownTo by_ by_.length)]) := by
  intro m
  have hh := hok_check ec
  have hnl := hh.nl
  have hnr := hh.nr
  have hns := hh.n
  have hbn := w.n
  have hfk := went_fok ec w
  have hfn := hfk.n
  simp only [harbA, harbL, fatesA, ints] at *
  (refine acall_intro (E := envC (modeAt [6, 8, 13, 21] []) false [8]) (envCOk _ _ _) rfl Try.func38 rfl Try.call38 (by kernel_rfl) (by simp [Try.ntmps38]) ?_; simp only [Try.f38];  simp (maxSteps := 4000000) only [↓VP, VQ, ite_self, Nat.reduceEqDiff, Nat.reduceAdd, Nat.reduceSub, Nat.reduceMul, Nat.reduceLeDiff, Nat.reduceLT, Nat.reduceBEq, Int.reduceLE, Int.reduceLT, Int.reduceNeg, Int.reduceAdd, Int.reduceSub, Int.reduceToNat, ↓reduceIte, reduceCtorEq, ↓ixShip, ↓ixCall, ↓ixLet, ↓ixRep, Int.reduceEq])
  repeat' (first | intro _ | refine And.intro ?_ ?_)
  all_goals try (first | omega | (simp only [List.length_map, List.length_cons, List.length_nil, List.length_append, Nat.zero_add]; omega) | exact nnC _ | exact nlC (by decide) _ | exact nbC rfl)
  refine aloop (envCOk _ _ _) (fun i : Nat => ⟨[(1, .v (.slice 2 (f.map fateA))), (2, .v (.slice 1 (by_.map (AV.int .i64)))), (3, .v (.eptr [.int .i64 h.ports, .int .i64 h.lost, .slice 5 (h.ships.map shipA), .slice 3 (h.letters.map letA), .slice 4 (h.reports.map repA)])), (6, .loc 6 0), (8, .loc 8 0), (9, .v (.slice 1 ((ownTo by_ i).map (AV.int .i64)))), (10, .lslice 21 0 by_.length by_.length), (11, .v (.int .i64 i))], [9],
      [(6, [.int .i64 0, .int .i64 0, .slice 5 [], .slice 3 [], .slice 4 []]), (8, [.int .i64 h.ports, .int .i64 h.lost, .slice 5 (h.ships.map shipA), .slice 3 ((letTo h by_ i).map letA), .slice 4 []]), (21, (placeTo by_ i).map (AV.int .i64))], m⟩)
    (fun i => i ≤ by_.length) (fun i => by_.length - i) 0 (fun _ => rfl) (by simp) ?_ ?_
  · (simp only [Fits, fitsV, fitsO, fitsL, ↓upd, ↓lookV, ↓lookO, ↓lookL, Nat.reduceEqDiff, ↓reduceIte, ints, and_true, true_and, Option.some.injEq])
    simp [ownTo, letTo, idxTo, placeTo_zero]
  intro i hi
  have e1 := ownTo_succ by_ i
  have e2 := letTo_succ h by_ i
  have e3 := ownTo_length by_ i
  have e4 := letTo_length h by_ i
  have e5 := idxTo_length by_ i
  have e6 : (placeTo by_ i).length = by_.length := by simp [placeTo]
  simp (maxSteps := 4000000) only [↓VP, VQ, ite_self, Nat.reduceEqDiff, Nat.reduceAdd, Nat.reduceSub, Nat.reduceMul, Nat.reduceLeDiff, Nat.reduceLT, Nat.reduceBEq, Int.reduceLE, Int.reduceLT, Int.reduceNeg, Int.reduceAdd, Int.reduceSub, Int.reduceToNat, ↓reduceIte, reduceCtorEq, ↓ixShip, ↓ixCall, ↓ixLet, ↓ixRep, ↓ixZ]
  repeat' (first | intro _ | refine And.intro ?_ ?_)
  all_goals try (first | omega | (simp only [List.length_map, List.length_cons, List.length_nil, List.length_append, Nat.zero_add]; omega) | exact nnC _ | exact nlC (by decide) _ | exact nbC rfl)
  · refine acut_keep_at 2 (envCOk _ _ _) rfl rfl rfl (fun (_ : Unit) => ⟨[(1, .v (.slice 2 (f.map fateA))), (2, .v (.slice 1 (by_.map (AV.int .i64)))), (3, .v (.eptr [.int .i64 h.ports, .int .i64 h.lost, .slice 5 (h.ships.map shipA), .slice 3 (h.letters.map letA), .slice 4 (h.reports.map repA)])), (6, .loc 6 0), (8, .loc 8 0), (9, .v (.slice 1 ((ownTo by_ i).map (AV.int .i64)))), (10, .lslice 21 0 by_.length by_.length), (11, .v (.int .i64 i))], [9],
      [(6, [.int .i64 0, .int .i64 0, .slice 5 [], .slice 3 [], .slice 4 []]), (8, [.int .i64 h.ports, .int .i64 h.lost, .slice 5 (h.ships.map shipA), .slice 3 ((letTo h by_ i).map letA), .slice 4 []]), (21, (placeTo by_ (i + 1)).map (AV.int .i64))], m⟩) (fun _ => True) (fun _ => rfl) ?_ ?_
    · have e7 := placeTo_store (by_ := by_) (i := i) (by omega)
      show vcOps _ _ (_ :: _) _ _
      simp (maxSteps := 4000000) only [↓VP, VQ, ite_self, Nat.reduceEqDiff, Nat.reduceAdd, Nat.reduceSub, Nat.reduceMul, Nat.reduceLeDiff, Nat.reduceLT, Nat.reduceBEq, Int.reduceLE, Int.reduceLT, Int.reduceNeg, Int.reduceAdd, Int.reduceSub, Int.reduceToNat, ↓reduceIte, reduceCtorEq, ↓ixShip, ↓ixCall, ↓ixLet, ↓ixRep, List.take_succ_cons, List.take_zero, SV.refs, not_false_eq_true, implies_true]
      repeat' (first | intro _ | refine And.intro ?_ ?_)
      all_goals try (first | omega | (simp only [List.length_map, List.length_cons, List.length_nil, List.length_append, Nat.zero_add]; omega) | exact nnC _ | exact nlC (by decide) _ | exact nbC rfl)
      exact ⟨(), by (simp only [Fits, fitsV, fitsO, fitsL, ↓upd, ↓lookV, ↓lookO, ↓lookL, Nat.reduceEqDiff, ↓reduceIte, ints, and_true, true_and, Option.some.injEq]); (try simp only [List.length_map]); exact e7⟩
    · rintro _ _
      simp (maxSteps := 4000000) only [↓VP, VQ, ite_self, Nat.reduceEqDiff, Nat.reduceAdd, Nat.reduceSub, Nat.reduceMul, Nat.reduceLeDiff, Nat.reduceLT, Nat.reduceBEq, Int.reduceLE, Int.reduceLT, Int.reduceNeg, Int.reduceAdd, Int.reduceSub, Int.reduceToNat, ↓reduceIte, reduceCtorEq, ↓ixShip, ↓ixCall, ↓ixLet, ↓ixRep]
      repeat' (first | intro _ | refine And.intro ?_ ?_)
      all_goals try (first | omega | (simp only [List.length_map, List.length_cons, List.length_nil, List.length_append, Nat.zero_add]; omega) | exact nnC _ | exact nlC (by decide) _ | exact nbC rfl)
      · have q : 0 ≤ by_[i]! := by assumption
        rw [if_pos q] at e1 e2
        (refine adraw (by first | exact envOk _ | exact envCOk _ _ _) mixed [⟨false, false, 0⟩, ⟨false, false, 0⟩, ⟨false, false, 0⟩, ⟨false, true, 0⟩, ⟨false, false, 0⟩, ⟨false, false, 0⟩, ⟨false, false, 0⟩, ⟨false, false, 0⟩, ⟨false, false, 0⟩, ⟨false, false, 0⟩, ⟨false, true, 0⟩, ⟨false, false, 0⟩, ⟨false, false, 0⟩] (by kernel_rfl) ?_; show vcOpsD _ _ _ (_ :: _) _ _)
        simp (maxSteps := 4000000) only [↓VP, VQ, ite_self, Nat.reduceEqDiff, Nat.reduceAdd, Nat.reduceSub, Nat.reduceMul, Nat.reduceLeDiff, Nat.reduceLT, Nat.reduceBEq, Int.reduceLE, Int.reduceLT, Int.reduceNeg, Int.reduceAdd, Int.reduceSub, Int.reduceToNat, ↓reduceIte, reduceCtorEq, ↓ixShip, ↓ixCall, ↓ixLet, ↓ixRep]
        repeat' (first | intro _ | refine And.intro ?_ ?_)
        all_goals try (first | omega | (simp only [List.length_map, List.length_cons, List.length_nil, List.length_append, Nat.zero_add]; omega) | exact nnC _ | exact nlC (by decide) _ | exact nbC rfl)
        (refine ⟨i + 1, by first | omega | (dsimp only; omega), by dsimp only; omega, ?_⟩; (simp only [Fits, fitsV, fitsO, fitsL, ↓upd, ↓lookV, ↓lookO, ↓lookL, Nat.reduceEqDiff, ↓reduceIte, ints, and_true, true_and, Option.some.injEq]); try simp [e1, e2, letA])
      · have q : ¬ 0 ≤ by_[i]! := by assumption
        rw [if_neg q] at e1 e2
        (refine ⟨i + 1, by first | omega | (dsimp only; omega), by dsimp only; omega, ?_⟩; (simp only [Fits, fitsV, fitsO, fitsL, ↓upd, ↓lookV, ↓lookO, ↓lookL, Nat.reduceEqDiff, ↓reduceIte, ints, and_true, true_and, Option.some.injEq]); try simp [e1, e2])
  have hie : i = by_.length := by omega
  subst hie
  clear e1 e2
  have hrp := hh.report
  have hday := fun (s : Nat) (q : s < h.ships.length) (p : Int) => refday_c h hh f s p q (by omega) (hfk.late s (by omega))
  have hsaid := fun (r : RRep) (q1 : r.kind < 2) (q2 : 0 ≤ r.of_ ∧ r.of_.toNat < h.ships.length) => said_c h hh f r q1 q2 (by omega) (hfk.late _ (by omega))
  have hheard := fun (r : RRep) (s : Nat) (q1 : 2 ≤ r.kind) (q2 : r.kind ≤ 3) (q3 : 0 ≤ r.of_ ∧ r.of_.toNat < h.letters.length) (q : s < h.ships.length) => heard_c h hh f r s q1 q2 q3 q (by omega) (hfk.late _ (by omega))
  have hgs := fun (k : Nat) (q : k < by_.length) (q2 : 0 ≤ by_[k]!) => went_ship ec w q q2
  simp only [harbA, harbL, fatesA, repA] at hday hsaid hheard
  refine aloop (envCOk _ _ _) (fun i : Nat => ⟨[(1, .v (.slice 2 (f.map fateA))), (2, .v (.slice 1 (by_.map (AV.int .i64)))), (3, .v (.eptr [.int .i64 h.ports, .int .i64 h.lost, .slice 5 (h.ships.map shipA), .slice 3 (h.letters.map letA), .slice 4 (h.reports.map repA)])), (6, .loc 6 0), (8, .loc 8 0), (9, .v (.slice 1 ((ownTo by_ by_.length).map (AV.int .i64)))), (10, .lslice 21 0 by_.length by_.length), (12, .v (.int .i64 i))], [9],
      [(6, [.int .i64 0, .int .i64 0, .slice 5 [], .slice 3 [], .slice 4 []]), (8, [.int .i64 h.ports, .int .i64 h.lost, .slice 5 (h.ships.map shipA), .slice 3 ((letTo h by_ by_.length).map letA), .slice 4 ((repTo h f by_ i).map repA)]), (21, (placeTo by_ by_.length).map (AV.int .i64))], m⟩)
    (fun i => i ≤ h.reports.length) (fun i => h.reports.length - i) 0 (fun _ => rfl) (by simp) (by (simp only [Fits, fitsV, fitsO, fitsL, ↓upd, ↓lookV, ↓lookO, ↓lookL, Nat.reduceEqDiff, ↓reduceIte, ints, and_true, true_and, Option.some.injEq]); simp [repTo]) ?_
  intro i hi
  have e1 := repTo_succ (h := h) (f := f) (by_ := by_) (n := i)
  have e2 := repTo_length h f by_ i
  have hrp1 := hrp i
  simp (maxSteps := 4000000) only [↓VP, VQ, ite_self, Nat.reduceEqDiff, Nat.reduceAdd, Nat.reduceSub, Nat.reduceMul, Nat.reduceLeDiff, Nat.reduceLT, Nat.reduceBEq, Int.reduceLE, Int.reduceLT, Int.reduceNeg, Int.reduceAdd, Int.reduceSub, Int.reduceToNat, ↓reduceIte, reduceCtorEq, ↓ixShip, ↓ixCall, ↓ixLet, ↓ixRep, ↓ixZ]
  repeat' (first | intro _ | refine And.intro ?_ ?_)
  all_goals try (first | omega | (simp only [List.length_map, List.length_cons, List.length_nil, List.length_append, Nat.zero_add]; omega) | exact nnC _ | exact nlC (by decide) _ | exact nbC rfl)
  · have hk : (h.reports[i]!).kind < 2 := by assumption
    have hil : i < h.reports.length := by omega
    have hr := hrp1 hil
    rw [if_pos hk] at hr
    have e3 := e1 hil
    have hlen := hr.2.1
    have hof : (((h.reports[i]!).of_.toNat : Nat) : Int) = (h.reports[i]!).of_ := Int.toNat_of_nonneg hlen.1
    have d1 := hday (h.reports[i]!).of_.toNat (by omega) (h.reports[i]!).port
    have hT : toldR h f by_ (h.reports[i]!) = if soB (dated1 (h.reports[i]!) 0 (dayR h f (h.reports[i]!).of_.toNat (h.reports[i]!).port)) (dayR h f (h.reports[i]!).of_.toNat (h.reports[i]!).port) = true then some (dated1 (h.reports[i]!) 0 (dayR h f (h.reports[i]!).of_.toNat (h.reports[i]!).port)) else none := by
      unfold toldR; rw [if_pos hk]
    have sA := hsaid ⟨(h.reports[i]!).kind, (h.reports[i]!).of_, (h.reports[i]!).port, dayR h f (h.reports[i]!).of_.toNat (h.reports[i]!).port⟩ hk ⟨hlen.1, by show (h.reports[i]!).of_.toNat < _; omega⟩
    have sB := hsaid (h.reports[i]!) hk ⟨hlen.1, by omega⟩
    rw [hof] at d1
    rw [hT] at e3
    clear hT
    dsimp only at sA
    have hA : ∀ D : Int, (h.reports[i]!).kind = 0 → 0 ≤ D → dated1 (h.reports[i]!) 0 D = ⟨(h.reports[i]!).kind, (h.reports[i]!).of_, (h.reports[i]!).port, D⟩ := fun D q1 q2 => if_pos ⟨q1, q2⟩
    have hB : ∀ D : Int, ¬ ((h.reports[i]!).kind = 0 ∧ 0 ≤ D) → dated1 (h.reports[i]!) 0 D = h.reports[i]! := fun D q1 => if_neg q1
    generalize dayR h f (h.reports[i]!).of_.toNat (h.reports[i]!).port = D at *
    generalize h.reports[i]! = r at *
    ((refine ACall.pure (d1) ?_; try simp (maxSteps := 4000000) only [↓VP, VQ, ite_self, Nat.reduceEqDiff, Nat.reduceAdd, Nat.reduceSub, Nat.reduceMul, Nat.reduceLeDiff, Nat.reduceLT, Nat.reduceBEq, Int.reduceLE, Int.reduceLT, Int.reduceNeg, Int.reduceAdd, Int.reduceSub, Int.reduceToNat, ↓reduceIte, reduceCtorEq, ↓ixShip, ↓ixCall, ↓ixLet, ↓ixRep]); try simp (maxSteps := 4000000) only [↓VP, VQ, ite_self, Nat.reduceEqDiff, Nat.reduceAdd, Nat.reduceSub, Nat.reduceMul, Nat.reduceLeDiff, Nat.reduceLT, Nat.reduceBEq, Int.reduceLE, Int.reduceLT, Int.reduceNeg, Int.reduceAdd, Int.reduceSub, Int.reduceToNat, ↓reduceIte, reduceCtorEq, ↓ixShip, ↓ixCall, ↓ixLet, ↓ixRep, eq_self, decide_true, decide_false, if_true, if_false, not_true_eq_false, List.append_eq])
    repeat' (first | intro _ | refine And.intro ?_ ?_)
    all_goals try (first | omega | (simp only [List.length_map, List.length_cons, List.length_nil, List.length_append, Nat.zero_add]; omega) | exact nnC _ | exact nlC (by decide) _ | exact nbC rfl)
    · rw [hA D (by assumption) (by assumption)] at e3
      generalize soB ⟨r.kind, r.of_, r.port, D⟩ D = b at *
      ((refine ACall.pure (sA) ?_; try simp (maxSteps := 4000000) only [↓VP, VQ, ite_self, Nat.reduceEqDiff, Nat.reduceAdd, Nat.reduceSub, Nat.reduceMul, Nat.reduceLeDiff, Nat.reduceLT, Nat.reduceBEq, Int.reduceLE, Int.reduceLT, Int.reduceNeg, Int.reduceAdd, Int.reduceSub, Int.reduceToNat, ↓reduceIte, reduceCtorEq, ↓ixShip, ↓ixCall, ↓ixLet, ↓ixRep]); try simp (maxSteps := 4000000) only [↓VP, VQ, ite_self, Nat.reduceEqDiff, Nat.reduceAdd, Nat.reduceSub, Nat.reduceMul, Nat.reduceLeDiff, Nat.reduceLT, Nat.reduceBEq, Int.reduceLE, Int.reduceLT, Int.reduceNeg, Int.reduceAdd, Int.reduceSub, Int.reduceToNat, ↓reduceIte, reduceCtorEq, ↓ixShip, ↓ixCall, ↓ixLet, ↓ixRep, eq_self, decide_true, decide_false, if_true, if_false, not_true_eq_false, List.append_eq])
      repeat' (first | intro _ | refine And.intro ?_ ?_)
      all_goals try (first | omega | (simp only [List.length_map, List.length_cons, List.length_nil, List.length_append, Nat.zero_add]; omega) | exact nnC _ | exact nlC (by decide) _ | exact nbC rfl)
      · have hb : b = false := by first | assumption | (rw [← Bool.not_eq_true]; assumption)
        rw [hb] at e3
        (refine ⟨i + 1, by first | omega | (dsimp only; omega), by dsimp only; omega, ?_⟩; (simp only [Fits, fitsV, fitsO, fitsL, ↓upd, ↓lookV, ↓lookO, ↓lookL, Nat.reduceEqDiff, ↓reduceIte, ints, and_true, true_and, Option.some.injEq]); try simp [e3])
      · have hb : b = true := by first | assumption | (rw [← Bool.not_eq_false]; assumption)
        rw [hb] at e3
        (refine adraw (by first | exact envOk _ | exact envCOk _ _ _) mixed [⟨false, false, 0⟩, ⟨false, false, 0⟩, ⟨false, false, 0⟩, ⟨false, true, 0⟩, ⟨false, false, 0⟩, ⟨false, false, 0⟩, ⟨false, true, 0⟩, ⟨false, false, 0⟩, ⟨false, false, 0⟩] (by kernel_rfl) ?_; show vcOpsD _ _ _ (_ :: _) _ _)
        simp (maxSteps := 4000000) only [↓VP, VQ, ite_self, Nat.reduceEqDiff, Nat.reduceAdd, Nat.reduceSub, Nat.reduceMul, Nat.reduceLeDiff, Nat.reduceLT, Nat.reduceBEq, Int.reduceLE, Int.reduceLT, Int.reduceNeg, Int.reduceAdd, Int.reduceSub, Int.reduceToNat, ↓reduceIte, reduceCtorEq, ↓ixShip, ↓ixCall, ↓ixLet, ↓ixRep]
        repeat' (first | intro _ | refine And.intro ?_ ?_)
        all_goals try (first | omega | (simp only [List.length_map, List.length_cons, List.length_nil, List.length_append, Nat.zero_add]; omega) | exact nnC _ | exact nlC (by decide) _ | exact nbC rfl)
        (refine ⟨i + 1, by first | omega | (dsimp only; omega), by dsimp only; omega, ?_⟩; (simp only [Fits, fitsV, fitsO, fitsL, ↓upd, ↓lookV, ↓lookO, ↓lookL, Nat.reduceEqDiff, ↓reduceIte, ints, and_true, true_and, Option.some.injEq]); try simp [e3, repA])
    all_goals
      rw [hB D (by omega)] at e3
      generalize soB r D = b at *
      ((refine ACall.pure (sB) ?_; try simp (maxSteps := 4000000) only [↓VP, VQ, ite_self, Nat.reduceEqDiff, Nat.reduceAdd, Nat.reduceSub, Nat.reduceMul, Nat.reduceLeDiff, Nat.reduceLT, Nat.reduceBEq, Int.reduceLE, Int.reduceLT, Int.reduceNeg, Int.reduceAdd, Int.reduceSub, Int.reduceToNat, ↓reduceIte, reduceCtorEq, ↓ixShip, ↓ixCall, ↓ixLet, ↓ixRep]); try simp (maxSteps := 4000000) only [↓VP, VQ, ite_self, Nat.reduceEqDiff, Nat.reduceAdd, Nat.reduceSub, Nat.reduceMul, Nat.reduceLeDiff, Nat.reduceLT, Nat.reduceBEq, Int.reduceLE, Int.reduceLT, Int.reduceNeg, Int.reduceAdd, Int.reduceSub, Int.reduceToNat, ↓reduceIte, reduceCtorEq, ↓ixShip, ↓ixCall, ↓ixLet, ↓ixRep, eq_self, decide_true, decide_false, if_true, if_false, not_true_eq_false, List.append_eq])
      repeat' (first | intro _ | refine And.intro ?_ ?_)
      all_goals try (first | omega | (simp only [List.length_map, List.length_cons, List.length_nil, List.length_append, Nat.zero_add]; omega) | exact nnC _ | exact nlC (by decide) _ | exact nbC rfl)
    all_goals first
      | (have hb : b = false := by first | assumption | (rw [← Bool.not_eq_true]; assumption)
         rw [hb] at e3
         (refine ⟨i + 1, by first | omega | (dsimp only; omega), by dsimp only; omega, ?_⟩; (simp only [Fits, fitsV, fitsO, fitsL, ↓upd, ↓lookV, ↓lookO, ↓lookL, Nat.reduceEqDiff, ↓reduceIte, ints, and_true, true_and, Option.some.injEq]); try simp [e3])
         done)
      | (have hb : b = true := by first | assumption | (rw [← Bool.not_eq_false]; assumption)
         rw [hb] at e3
         (refine adraw (by first | exact envOk _ | exact envCOk _ _ _) mixed [⟨false, false, 0⟩, ⟨false, false, 0⟩, ⟨false, false, 0⟩, ⟨false, true, 0⟩, ⟨false, false, 0⟩, ⟨false, false, 0⟩, ⟨false, true, 0⟩, ⟨false, false, 0⟩, ⟨false, false, 0⟩] (by kernel_rfl) ?_; show vcOpsD _ _ _ (_ :: _) _ _)
         simp (maxSteps := 4000000) only [↓VP, VQ, ite_self, Nat.reduceEqDiff, Nat.reduceAdd, Nat.reduceSub, Nat.reduceMul, Nat.reduceLeDiff, Nat.reduceLT, Nat.reduceBEq, Int.reduceLE, Int.reduceLT, Int.reduceNeg, Int.reduceAdd, Int.reduceSub, Int.reduceToNat, ↓reduceIte, reduceCtorEq, ↓ixShip, ↓ixCall, ↓ixLet, ↓ixRep]
         repeat' (first | intro _ | refine And.intro ?_ ?_)
         all_goals try (first | omega | (simp only [List.length_map, List.length_cons, List.length_nil, List.length_append, Nat.zero_add]; omega) | exact nnC _ | exact nlC (by decide) _ | exact nbC rfl)
         (refine ⟨i + 1, by first | omega | (dsimp only; omega), by dsimp only; omega, ?_⟩; (simp only [Fits, fitsV, fitsO, fitsL, ↓upd, ↓lookV, ↓lookO, ↓lookL, Nat.reduceEqDiff, ↓reduceIte, ints, and_true, true_and, Option.some.injEq]); try simp [e3, repA])
         done)
  · have hk : ¬ (h.reports[i]!).kind < 2 := by assumption
    have e3 := e1 (by omega)
    have hT : toldR h f by_ (h.reports[i]!) = none := by unfold toldR; rw [if_neg hk, if_pos (by assumption)]
    rw [hT] at e3
    (refine ⟨i + 1, by first | omega | (dsimp only; omega), by dsimp only; omega, ?_⟩; (simp only [Fits, fitsV, fitsO, fitsL, ↓upd, ↓lookV, ↓lookO, ↓lookL, Nat.reduceEqDiff, ↓reduceIte, ints, and_true, true_and, Option.some.injEq]); try simp [e3])
  · have hk : ¬ (h.reports[i]!).kind < 2 := by assumption
    have hq : ¬ by_[(h.reports[i]!).of_.toNat]! < 0 := by assumption
    have hil : i < h.reports.length := by omega
    have hr := hrp1 hil
    rw [if_neg hk] at hr
    have e3 := e1 hil
    have hlen := hr.2.1
    obtain ⟨g1, g2, g3⟩ := hgs (h.reports[i]!).of_.toNat (by omega) (by omega)
    have d1 := hday (by_[(h.reports[i]!).of_.toNat]!).toNat g1 (h.letters[(h.reports[i]!).of_.toNat]!).port
    have hT : toldR h f by_ (h.reports[i]!) = if soB (dated1 (h.reports[i]!) 2 (dayR h f (by_[(h.reports[i]!).of_.toNat]!).toNat (h.letters[(h.reports[i]!).of_.toNat]!).port)) (dayR h f (by_[(h.reports[i]!).of_.toNat]!).toNat (h.letters[(h.reports[i]!).of_.toNat]!).port) = true
        then some { dated1 (h.reports[i]!) 2 (dayR h f (by_[(h.reports[i]!).of_.toNat]!).toNat (h.letters[(h.reports[i]!).of_.toNat]!).port) with of_ := ((ownTo by_ (h.reports[i]!).of_.toNat).length : Int) } else none := by
      unfold toldR; rw [if_neg hk, if_neg hq]
    have sA := hheard ⟨(h.reports[i]!).kind, (h.reports[i]!).of_, (h.reports[i]!).port, dayR h f (by_[(h.reports[i]!).of_.toNat]!).toNat (h.letters[(h.reports[i]!).of_.toNat]!).port⟩ (by_[(h.reports[i]!).of_.toNat]!).toNat (by show 2 ≤ (h.reports[i]!).kind; omega) hr.1.2 ⟨hlen.1, by show (h.reports[i]!).of_.toNat < _; omega⟩ g1
    have sB := hheard (h.reports[i]!) (by_[(h.reports[i]!).of_.toNat]!).toNat (by omega) hr.1.2 ⟨hlen.1, by omega⟩ g1
    obtain ⟨rest, hdr⟩ := placeTo_drop (by_ := by_) (n := by_.length) (j := (h.reports[i]!).of_.toNat) (by omega) (by omega)
    rw [← g3] at d1
    rw [hT] at e3
    clear hT
    dsimp only at sA
    rw [← g3] at sA sB
    have hA : ∀ D : Int, (h.reports[i]!).kind = 2 → 0 ≤ D → dated1 (h.reports[i]!) 2 D = ⟨(h.reports[i]!).kind, (h.reports[i]!).of_, (h.reports[i]!).port, D⟩ := fun D q1 q2 => if_pos ⟨q1, q2⟩
    have hB : ∀ D : Int, ¬ ((h.reports[i]!).kind = 2 ∧ 0 ≤ D) → dated1 (h.reports[i]!) 2 D = h.reports[i]! := fun D q1 => if_neg q1
    generalize dayR h f (by_[(h.reports[i]!).of_.toNat]!).toNat (h.letters[(h.reports[i]!).of_.toNat]!).port = D at *
    generalize h.reports[i]! = r at *
    (refine adraw (by first | exact envOk _ | exact envCOk _ _ _) mixed [⟨false, false, 0⟩, ⟨false, false, 0⟩, ⟨false, false, 0⟩, ⟨false, false, 0⟩, ⟨false, false, 0⟩, ⟨false, false, 0⟩, ⟨false, false, 0⟩, ⟨false, false, 0⟩, ⟨false, false, 0⟩, ⟨false, false, 0⟩, ⟨false, false, 0⟩, ⟨false, false, 0⟩, ⟨false, false, 0⟩, ⟨false, false, 0⟩, ⟨false, false, 0⟩, ⟨false, false, 0⟩] (by kernel_rfl) ?_; show vcOpsD _ _ _ (_ :: _) _ _)
    simp (maxSteps := 4000000) only [↓VP, VQ, ite_self, Nat.reduceEqDiff, Nat.reduceAdd, Nat.reduceSub, Nat.reduceMul, Nat.reduceLeDiff, Nat.reduceLT, Nat.reduceBEq, Int.reduceLE, Int.reduceLT, Int.reduceNeg, Int.reduceAdd, Int.reduceSub, Int.reduceToNat, ↓reduceIte, reduceCtorEq, ↓ixShip, ↓ixCall, ↓ixLet, ↓ixRep, ↓ixZ]
    repeat' (first | intro _ | refine And.intro ?_ ?_)
    all_goals try (first | omega | (simp only [List.length_map, List.length_cons, List.length_nil, List.length_append, Nat.zero_add]; omega) | exact nnC _ | exact nlC (by decide) _ | exact nbC rfl)
    refine VPure.of d1 ?_
    simp (maxSteps := 4000000) only [↓VP, VQ, ite_self, Nat.reduceEqDiff, Nat.reduceAdd, Nat.reduceSub, Nat.reduceMul, Nat.reduceLeDiff, Nat.reduceLT, Nat.reduceBEq, Int.reduceLE, Int.reduceLT, Int.reduceNeg, Int.reduceAdd, Int.reduceSub, Int.reduceToNat, ↓reduceIte, reduceCtorEq, ↓ixShip, ↓ixCall, ↓ixLet, ↓ixRep]
    repeat' (first | intro _ | refine And.intro ?_ ?_)
    all_goals try (first | omega | (simp only [List.length_map, List.length_cons, List.length_nil, List.length_append, Nat.zero_add]; omega) | exact nnC _ | exact nlC (by decide) _ | exact nbC rfl)
    · rw [hA D (by assumption) (by assumption)] at e3
      generalize soB ⟨r.kind, r.of_, r.port, D⟩ D = b at *
      (refine adraw (by first | exact envOk _ | exact envCOk _ _ _) mixed [⟨false, false, 0⟩, ⟨false, false, 0⟩, ⟨false, false, 0⟩, ⟨false, false, 0⟩, ⟨false, false, 0⟩, ⟨false, false, 0⟩, ⟨false, false, 0⟩, ⟨false, false, 0⟩, ⟨false, false, 0⟩, ⟨false, false, 0⟩] (by kernel_rfl) ?_; show vcOpsD _ _ _ (_ :: _) _ _)
      simp (maxSteps := 4000000) only [↓VP, VQ, ite_self, Nat.reduceEqDiff, Nat.reduceAdd, Nat.reduceSub, Nat.reduceMul, Nat.reduceLeDiff, Nat.reduceLT, Nat.reduceBEq, Int.reduceLE, Int.reduceLT, Int.reduceNeg, Int.reduceAdd, Int.reduceSub, Int.reduceToNat, ↓reduceIte, reduceCtorEq, ↓ixShip, ↓ixCall, ↓ixLet, ↓ixRep, ↓ixZ]
      repeat' (first | intro _ | refine And.intro ?_ ?_)
      all_goals try (first | omega | (simp only [List.length_map, List.length_cons, List.length_nil, List.length_append, Nat.zero_add]; omega) | exact nnC _ | exact nlC (by decide) _ | exact nbC rfl)
      refine VPure.of sA ?_
      simp (maxSteps := 4000000) only [↓VP, VQ, ite_self, Nat.reduceEqDiff, Nat.reduceAdd, Nat.reduceSub, Nat.reduceMul, Nat.reduceLeDiff, Nat.reduceLT, Nat.reduceBEq, Int.reduceLE, Int.reduceLT, Int.reduceNeg, Int.reduceAdd, Int.reduceSub, Int.reduceToNat, ↓reduceIte, reduceCtorEq, ↓ixShip, ↓ixCall, ↓ixLet, ↓ixRep, ↓ixZ, hdr]
      repeat' (first | intro _ | refine And.intro ?_ ?_)
      all_goals try (first | omega | (simp only [List.length_map, List.length_cons, List.length_nil, List.length_append, Nat.zero_add]; omega) | exact nnC _ | exact nlC (by decide) _ | exact nbC rfl)
      · have hb : b = false := by assumption
        rw [hb] at e3
        (refine ⟨i + 1, by first | omega | (dsimp only; omega), by dsimp only; omega, ?_⟩; (simp only [Fits, fitsV, fitsO, fitsL, ↓upd, ↓lookV, ↓lookO, ↓lookL, Nat.reduceEqDiff, ↓reduceIte, ints, and_true, true_and, Option.some.injEq]); try simp [e3])
      · have hb : b = true := by first | assumption | (rw [← Bool.not_eq_false]; assumption)
        rw [hb] at e3
        (refine adraw (by first | exact envOk _ | exact envCOk _ _ _) mixed [⟨false, false, 0⟩, ⟨false, false, 0⟩, ⟨false, false, 0⟩, ⟨false, true, 0⟩, ⟨false, false, 0⟩, ⟨false, false, 0⟩, ⟨false, true, 0⟩, ⟨false, false, 0⟩, ⟨false, false, 0⟩] (by kernel_rfl) ?_; show vcOpsD _ _ _ (_ :: _) _ _)
        simp (maxSteps := 4000000) only [↓VP, VQ, ite_self, Nat.reduceEqDiff, Nat.reduceAdd, Nat.reduceSub, Nat.reduceMul, Nat.reduceLeDiff, Nat.reduceLT, Nat.reduceBEq, Int.reduceLE, Int.reduceLT, Int.reduceNeg, Int.reduceAdd, Int.reduceSub, Int.reduceToNat, ↓reduceIte, reduceCtorEq, ↓ixShip, ↓ixCall, ↓ixLet, ↓ixRep]
        repeat' (first | intro _ | refine And.intro ?_ ?_)
        all_goals try (first | omega | (simp only [List.length_map, List.length_cons, List.length_nil, List.length_append, Nat.zero_add]; omega) | exact nnC _ | exact nlC (by decide) _ | exact nbC rfl)
        (refine ⟨i + 1, by first | omega | (dsimp only; omega), by dsimp only; omega, ?_⟩; (simp only [Fits, fitsV, fitsO, fitsL, ↓upd, ↓lookV, ↓lookO, ↓lookL, Nat.reduceEqDiff, ↓reduceIte, ints, and_true, true_and, Option.some.injEq]); try simp [e3, repA])
    all_goals
      rw [hB D (by omega)] at e3
      generalize soB r D = b at *
      (refine adraw (by first | exact envOk _ | exact envCOk _ _ _) mixed [⟨false, false, 0⟩, ⟨false, false, 0⟩, ⟨false, false, 0⟩, ⟨false, false, 0⟩, ⟨false, false, 0⟩, ⟨false, false, 0⟩, ⟨false, false, 0⟩, ⟨false, false, 0⟩, ⟨false, false, 0⟩, ⟨false, false, 0⟩] (by kernel_rfl) ?_; show vcOpsD _ _ _ (_ :: _) _ _)
      simp (maxSteps := 4000000) only [↓VP, VQ, ite_self, Nat.reduceEqDiff, Nat.reduceAdd, Nat.reduceSub, Nat.reduceMul, Nat.reduceLeDiff, Nat.reduceLT, Nat.reduceBEq, Int.reduceLE, Int.reduceLT, Int.reduceNeg, Int.reduceAdd, Int.reduceSub, Int.reduceToNat, ↓reduceIte, reduceCtorEq, ↓ixShip, ↓ixCall, ↓ixLet, ↓ixRep, ↓ixZ]
      repeat' (first | intro _ | refine And.intro ?_ ?_)
      all_goals try (first | omega | (simp only [List.length_map, List.length_cons, List.length_nil, List.length_append, Nat.zero_add]; omega) | exact nnC _ | exact nlC (by decide) _ | exact nbC rfl)
      refine VPure.of sB ?_
      simp (maxSteps := 4000000) only [↓VP, VQ, ite_self, Nat.reduceEqDiff, Nat.reduceAdd, Nat.reduceSub, Nat.reduceMul, Nat.reduceLeDiff, Nat.reduceLT, Nat.reduceBEq, Int.reduceLE, Int.reduceLT, Int.reduceNeg, Int.reduceAdd, Int.reduceSub, Int.reduceToNat, ↓reduceIte, reduceCtorEq, ↓ixShip, ↓ixCall, ↓ixLet, ↓ixRep, ↓ixZ, hdr]
      repeat' (first | intro _ | refine And.intro ?_ ?_)
      all_goals try (first | omega | (simp only [List.length_map, List.length_cons, List.length_nil, List.length_append, Nat.zero_add]; omega) | exact nnC _ | exact nlC (by decide) _ | exact nbC rfl)
    all_goals first
      | (have hb : b = false := by assumption
         rw [hb] at e3
         (refine ⟨i + 1, by first | omega | (dsimp only; omega), by dsimp only; omega, ?_⟩; (simp only [Fits, fitsV, fitsO, fitsL, ↓upd, ↓lookV, ↓lookO, ↓lookL, Nat.reduceEqDiff, ↓reduceIte, ints, and_true, true_and, Option.some.injEq]); try simp [e3])
         done)
      | (have hb : b = true := by first | assumption | (rw [← Bool.not_eq_false]; assumption)
         rw [hb] at e3
         (refine adraw (by first | exact envOk _ | exact envCOk _ _ _) mixed [⟨false, false, 0⟩, ⟨false, false, 0⟩, ⟨false, false, 0⟩, ⟨false, true, 0⟩, ⟨false, false, 0⟩, ⟨false, false, 0⟩, ⟨false, true, 0⟩, ⟨false, false, 0⟩, ⟨false, false, 0⟩] (by kernel_rfl) ?_; show vcOpsD _ _ _ (_ :: _) _ _)
         simp (maxSteps := 4000000) only [↓VP, VQ, ite_self, Nat.reduceEqDiff, Nat.reduceAdd, Nat.reduceSub, Nat.reduceMul, Nat.reduceLeDiff, Nat.reduceLT, Nat.reduceBEq, Int.reduceLE, Int.reduceLT, Int.reduceNeg, Int.reduceAdd, Int.reduceSub, Int.reduceToNat, ↓reduceIte, reduceCtorEq, ↓ixShip, ↓ixCall, ↓ixLet, ↓ixRep]
         repeat' (first | intro _ | refine And.intro ?_ ?_)
         all_goals try (first | omega | (simp only [List.length_map, List.length_cons, List.length_nil, List.length_append, Nat.zero_add]; omega) | exact nnC _ | exact nlC (by decide) _ | exact nbC rfl)
         (refine ⟨i + 1, by first | omega | (dsimp only; omega), by dsimp only; omega, ?_⟩; (simp only [Fits, fitsV, fitsO, fitsL, ↓upd, ↓lookV, ↓lookO, ↓lookL, Nat.reduceEqDiff, ↓reduceIte, ints, and_true, true_and, Option.some.injEq]); try simp [e3, repA])
         done)
  · have hie : i = h.reports.length := by omega
    subst hie
    rfl
end Go.Proofs.Ytnfmmhmfbipkjaa.Abs

namespace Go.Proofs.Ytnfmmhmfbipkjaa.Abs
set_option linter.unusedSimpArgs false
set_option maxHeartbeats 4000000
set_option maxRecDepth 100000
open Go Go.RowKit Go.Proofs

theorem inside_c (n lo hi : Int) : PCall Try.prog 42 [.int .i64 n, .agg [.int .i64 lo, .int .i64 hi]] (.bool (decide (lo ≤ n ∧ n ≤ hi))) := by
  intro m
  have a1 := in_c n lo hi
  (refine acall_intro (E := envC (modeAt [] []) false []) (envCOk _ _ _) rfl Try.func42 rfl Try.call42 (by kernel_rfl) (by simp [Try.ntmps42]) ?_; simp only [Try.f42];  simp (maxSteps := 4000000) only [↓VP, VQ, ite_self, Nat.reduceEqDiff, Nat.reduceAdd, Nat.reduceSub, Nat.reduceMul, Nat.reduceLeDiff, Nat.reduceLT, Nat.reduceBEq, Int.reduceLE, Int.reduceLT, Int.reduceNeg, Int.reduceAdd, Int.reduceSub, Int.reduceToNat, ↓reduceIte, reduceCtorEq, ↓ixShip, ↓ixCall, ↓ixLet, ↓ixRep, Int.reduceEq])
  ((refine ACall.pure (a1) ?_; try simp (maxSteps := 4000000) only [↓VP, VQ, ite_self, Nat.reduceEqDiff, Nat.reduceAdd, Nat.reduceSub, Nat.reduceMul, Nat.reduceLeDiff, Nat.reduceLT, Nat.reduceBEq, Int.reduceLE, Int.reduceLT, Int.reduceNeg, Int.reduceAdd, Int.reduceSub, Int.reduceToNat, ↓reduceIte, reduceCtorEq, ↓ixShip, ↓ixCall, ↓ixLet, ↓ixRep]); try simp (maxSteps := 4000000) only [↓VP, VQ, ite_self, Nat.reduceEqDiff, Nat.reduceAdd, Nat.reduceSub, Nat.reduceMul, Nat.reduceLeDiff, Nat.reduceLT, Nat.reduceBEq, Int.reduceLE, Int.reduceLT, Int.reduceNeg, Int.reduceAdd, Int.reduceSub, Int.reduceToNat, ↓reduceIte, reduceCtorEq, ↓ixShip, ↓ixCall, ↓ixLet, ↓ixRep, eq_self, decide_true, decide_false, if_true, if_false, not_true_eq_false, List.append_eq])

theorem shipTrue_bad (h : RHarb) (hf : HFit h) (n : Nat) (ys : List Nat) (d : Nat) (e : ¬ (checkH h).2.2 = 0) : PCall Try.prog 7 [harbA h, .agg [.int .u16 n, .slice 1 (u8s ys)], .int .u8 d] (.bool true) := by
  intro m
  have a1 := valid_c h hf.names
  have s1 := sunk_top h hf.names
  have aw := awake_c
  have e1 : validB h = false := decide_eq_false e
  have e2 : (sunkR h).2.2 ≠ 0 := fun q => e (some_check (sunkR_some_of q))
  rw [e1] at a1
  generalize sunkR h = S1 at *
  simp only [harbA, harbL, ints] at *
  (refine acall_intro (E := envC (modeAt [12, 22] []) false []) (envCOk _ _ _) rfl Try.func7 rfl Try.call7 (by kernel_rfl) (by simp [Try.ntmps7]) ?_; simp only [Try.f7];  simp (maxSteps := 4000000) only [↓VP, VQ, ite_self, Nat.reduceEqDiff, Nat.reduceAdd, Nat.reduceSub, Nat.reduceMul, Nat.reduceLeDiff, Nat.reduceLT, Nat.reduceBEq, Int.reduceLE, Int.reduceLT, Int.reduceNeg, Int.reduceAdd, Int.reduceSub, Int.reduceToNat, ↓reduceIte, reduceCtorEq, ↓ixShip, ↓ixCall, ↓ixLet, ↓ixRep, Int.reduceEq])
  ((refine ACall.pure (a1) ?_; try simp (maxSteps := 4000000) only [↓VP, VQ, ite_self, Nat.reduceEqDiff, Nat.reduceAdd, Nat.reduceSub, Nat.reduceMul, Nat.reduceLeDiff, Nat.reduceLT, Nat.reduceBEq, Int.reduceLE, Int.reduceLT, Int.reduceNeg, Int.reduceAdd, Int.reduceSub, Int.reduceToNat, ↓reduceIte, reduceCtorEq, ↓ixShip, ↓ixCall, ↓ixLet, ↓ixRep]); try simp (maxSteps := 4000000) only [↓VP, VQ, ite_self, Nat.reduceEqDiff, Nat.reduceAdd, Nat.reduceSub, Nat.reduceMul, Nat.reduceLeDiff, Nat.reduceLT, Nat.reduceBEq, Int.reduceLE, Int.reduceLT, Int.reduceNeg, Int.reduceAdd, Int.reduceSub, Int.reduceToNat, ↓reduceIte, reduceCtorEq, ↓ixShip, ↓ixCall, ↓ixLet, ↓ixRep, eq_self, decide_true, decide_false, if_true, if_false, not_true_eq_false, List.append_eq])
  (refine ACall.pure (s1) ?_; try simp (maxSteps := 4000000) only [↓VP, VQ, ite_self, Nat.reduceEqDiff, Nat.reduceAdd, Nat.reduceSub, Nat.reduceMul, Nat.reduceLeDiff, Nat.reduceLT, Nat.reduceBEq, Int.reduceLE, Int.reduceLT, Int.reduceNeg, Int.reduceAdd, Int.reduceSub, Int.reduceToNat, ↓reduceIte, reduceCtorEq, ↓ixShip, ↓ixCall, ↓ixLet, ↓ixRep, eq_self, decide_true, decide_false, if_true, if_false, not_true_eq_false, List.append_eq, e2])
  repeat' (first | intro _ | refine And.intro ?_ ?_)
  all_goals try (first | omega | (simp only [List.length_map, List.length_cons, List.length_nil, List.length_append, Nat.zero_add]; omega) | exact nnC _ | exact nlC (by decide) _ | exact nbC rfl)
  ((refine ACall.pure (aw) ?_; try simp (maxSteps := 4000000) only [↓VP, VQ, ite_self, Nat.reduceEqDiff, Nat.reduceAdd, Nat.reduceSub, Nat.reduceMul, Nat.reduceLeDiff, Nat.reduceLT, Nat.reduceBEq, Int.reduceLE, Int.reduceLT, Int.reduceNeg, Int.reduceAdd, Int.reduceSub, Int.reduceToNat, ↓reduceIte, reduceCtorEq, ↓ixShip, ↓ixCall, ↓ixLet, ↓ixRep]); try simp (maxSteps := 4000000) only [↓VP, VQ, ite_self, Nat.reduceEqDiff, Nat.reduceAdd, Nat.reduceSub, Nat.reduceMul, Nat.reduceLeDiff, Nat.reduceLT, Nat.reduceBEq, Int.reduceLE, Int.reduceLT, Int.reduceNeg, Int.reduceAdd, Int.reduceSub, Int.reduceToNat, ↓reduceIte, reduceCtorEq, ↓ixShip, ↓ixCall, ↓ixLet, ↓ixRep, eq_self, decide_true, decide_false, if_true, if_false, not_true_eq_false, List.append_eq])

theorem shipTrue_ok (h : RHarb) (hf : HFit h) (n : Nat) (hn : n < 65536) (ys : List Nat) (hy : ∀ x ∈ ys, x < 256) (d : Nat) (hd : d < 256) (e : (checkH h).2.2 = 0) : PCall Try.prog 7 [harbA h, .agg [.int .u16 n, .slice 1 (u8s ys)], .int .u8 d] (.bool true) := by
  intro m
  have hh := hok_check e
  have hns := hh.n
  have hnl := hh.nl
  have hp := hh.p
  have a1 := valid_c h hf.names
  have e1 : validB h = true := decide_eq_true e
  rw [e1] at a1
  have aw := awake_c
  have r1 := real_c h hh n hn ys hy
  have w := real_went e n ys
  generalize realF h n = f at *
  generalize realTo h f ys h.letters.length = by_ at *
  have r2 := told_c h e f by_ w
  have hbn := w.n
  have hfk := went_fok e w
  have hZ := hok_check (told_check e w)
  have hnm : hnamesFit (toldH h f by_) := hf.names
  have w1 := wrong_top (toldH h f by_) hnm
  rw [told_wrong e w] at w1
  have s1 := sunk_top (toldH h f by_) hnm
  obtain ⟨k1, k2⟩ := told_sunk e w
  rw [k1] at s1
  have hfl : f.length = (toldH h f by_).ships.length := hfk.n
  have l1 := reflost_c (toldH h f by_) f (by omega) hZ.n
  have c1 := fun s p : Nat => callsP_c (toldH h f by_) hnm s p hf.ports
  have c2 := fun (s p : Nat) (q : s < h.ships.length) (q2 : (p : Int) ≤ h.ports - 1) => told_calls e w q (port := (p : Int)) ⟨by omega, q2⟩
  have dy := fun (s : Nat) (p : Int) (q : s < h.ships.length) => refday_c (toldH h f by_) hZ f s p q (by rw [hfk.n]; exact q) (hfk.late s (by rw [hfk.n]; exact q))
  have cm := fun (j : Nat) (u : Int) => come_top (toldH h f by_) hnm j u
  have cm2 := fun (j u : Nat) (q : j < (idxTo by_ by_.length).length) (q2 : u ≤ 60) => told_come e w q (d := (u : Int)) ⟨by omega, by omega⟩
  have bt := fun j : Nat => by_top (toldH h f by_) hnm j
  have bt2 := fun (j : Nat) (q : j < (idxTo by_ by_.length).length) => told_by e w q
  have ow := fun (j : Nat) (q : j < (idxTo by_ by_.length).length) => (told_own e w q).2
  have hOl : (ownTo by_ by_.length).length = (idxTo by_ by_.length).length := by unfold ownTo; rw [List.length_map]
  have hLl : (toldH h f by_).letters.length = (idxTo by_ by_.length).length := letTo_length h by_ by_.length
  have hK := idxTo_length by_ by_.length
  have hzs : (toldH h f by_).ships = h.ships := rfl
  have hzp : (toldH h f by_).ports = h.ports := rfl
  have m61 := natMod61 d
  have hD : d % 61 < 61 := Nat.mod_lt _ (by decide)
  generalize d % 61 = u at *
  generalize toldH h f by_ = Z at *
  generalize (idxTo by_ by_.length).length = K at *
  generalize ownTo by_ by_.length = O at *
  generalize lostL Z f f.length = LL at *
  generalize callsR Z = C at *
  generalize comeR Z = CR at *
  generalize byR Z = B at *
  generalize sunkR Z = S at *
  generalize hDy : dayR Z f = Dy at *
  clear hDy w
  have hh1 := fun s : Nat => has_c LL s
  have hh2 := fun s : Nat => has_c S.2.1 s
  have hh3 := fun s : Nat => has_c S.1 s
  have ins := fun (s p : Nat) => inside_c (Dy s p) (C s p).1.1 (C s p).1.2
  have hb3 := fun (j : Nat) => has_c (B j).1 (O[j]!)
  simp only [harbA, harbL, ints, fatesA, hzs, hzp, List.map_nil] at *
  (refine acall_intro (E := envC (modeAt [12, 22] []) false []) (envCOk _ _ _) rfl Try.func7 rfl Try.call7 (by kernel_rfl) (by simp [Try.ntmps7]) ?_; simp only [Try.f7];  simp (maxSteps := 4000000) only [↓VP, VQ, ite_self, Nat.reduceEqDiff, Nat.reduceAdd, Nat.reduceSub, Nat.reduceMul, Nat.reduceLeDiff, Nat.reduceLT, Nat.reduceBEq, Int.reduceLE, Int.reduceLT, Int.reduceNeg, Int.reduceAdd, Int.reduceSub, Int.reduceToNat, ↓reduceIte, reduceCtorEq, ↓ixShip, ↓ixCall, ↓ixLet, ↓ixRep, Int.reduceEq])
  ((refine ACall.pure (a1) ?_; try simp (maxSteps := 4000000) only [↓VP, VQ, ite_self, Nat.reduceEqDiff, Nat.reduceAdd, Nat.reduceSub, Nat.reduceMul, Nat.reduceLeDiff, Nat.reduceLT, Nat.reduceBEq, Int.reduceLE, Int.reduceLT, Int.reduceNeg, Int.reduceAdd, Int.reduceSub, Int.reduceToNat, ↓reduceIte, reduceCtorEq, ↓ixShip, ↓ixCall, ↓ixLet, ↓ixRep]); try simp (maxSteps := 4000000) only [↓VP, VQ, ite_self, Nat.reduceEqDiff, Nat.reduceAdd, Nat.reduceSub, Nat.reduceMul, Nat.reduceLeDiff, Nat.reduceLT, Nat.reduceBEq, Int.reduceLE, Int.reduceLT, Int.reduceNeg, Int.reduceAdd, Int.reduceSub, Int.reduceToNat, ↓reduceIte, reduceCtorEq, ↓ixShip, ↓ixCall, ↓ixLet, ↓ixRep, eq_self, decide_true, decide_false, if_true, if_false, not_true_eq_false, List.append_eq])
  ((refine ACall.pure (r1) ?_; try simp (maxSteps := 4000000) only [↓VP, VQ, ite_self, Nat.reduceEqDiff, Nat.reduceAdd, Nat.reduceSub, Nat.reduceMul, Nat.reduceLeDiff, Nat.reduceLT, Nat.reduceBEq, Int.reduceLE, Int.reduceLT, Int.reduceNeg, Int.reduceAdd, Int.reduceSub, Int.reduceToNat, ↓reduceIte, reduceCtorEq, ↓ixShip, ↓ixCall, ↓ixLet, ↓ixRep]); try simp (maxSteps := 4000000) only [↓VP, VQ, ite_self, Nat.reduceEqDiff, Nat.reduceAdd, Nat.reduceSub, Nat.reduceMul, Nat.reduceLeDiff, Nat.reduceLT, Nat.reduceBEq, Int.reduceLE, Int.reduceLT, Int.reduceNeg, Int.reduceAdd, Int.reduceSub, Int.reduceToNat, ↓reduceIte, reduceCtorEq, ↓ixShip, ↓ixCall, ↓ixLet, ↓ixRep, eq_self, decide_true, decide_false, if_true, if_false, not_true_eq_false, List.append_eq])
  ((refine ACall.pure (r2) ?_; try simp (maxSteps := 4000000) only [↓VP, VQ, ite_self, Nat.reduceEqDiff, Nat.reduceAdd, Nat.reduceSub, Nat.reduceMul, Nat.reduceLeDiff, Nat.reduceLT, Nat.reduceBEq, Int.reduceLE, Int.reduceLT, Int.reduceNeg, Int.reduceAdd, Int.reduceSub, Int.reduceToNat, ↓reduceIte, reduceCtorEq, ↓ixShip, ↓ixCall, ↓ixLet, ↓ixRep]); try simp (maxSteps := 4000000) only [↓VP, VQ, ite_self, Nat.reduceEqDiff, Nat.reduceAdd, Nat.reduceSub, Nat.reduceMul, Nat.reduceLeDiff, Nat.reduceLT, Nat.reduceBEq, Int.reduceLE, Int.reduceLT, Int.reduceNeg, Int.reduceAdd, Int.reduceSub, Int.reduceToNat, ↓reduceIte, reduceCtorEq, ↓ixShip, ↓ixCall, ↓ixLet, ↓ixRep, eq_self, decide_true, decide_false, if_true, if_false, not_true_eq_false, List.append_eq])
  ((refine ACall.pure (w1) ?_; try simp (maxSteps := 4000000) only [↓VP, VQ, ite_self, Nat.reduceEqDiff, Nat.reduceAdd, Nat.reduceSub, Nat.reduceMul, Nat.reduceLeDiff, Nat.reduceLT, Nat.reduceBEq, Int.reduceLE, Int.reduceLT, Int.reduceNeg, Int.reduceAdd, Int.reduceSub, Int.reduceToNat, ↓reduceIte, reduceCtorEq, ↓ixShip, ↓ixCall, ↓ixLet, ↓ixRep]); try simp (maxSteps := 4000000) only [↓VP, VQ, ite_self, Nat.reduceEqDiff, Nat.reduceAdd, Nat.reduceSub, Nat.reduceMul, Nat.reduceLeDiff, Nat.reduceLT, Nat.reduceBEq, Int.reduceLE, Int.reduceLT, Int.reduceNeg, Int.reduceAdd, Int.reduceSub, Int.reduceToNat, ↓reduceIte, reduceCtorEq, ↓ixShip, ↓ixCall, ↓ixLet, ↓ixRep, eq_self, decide_true, decide_false, if_true, if_false, not_true_eq_false, List.append_eq])
  (refine ACall.pure (s1) ?_; try simp (maxSteps := 4000000) only [↓VP, VQ, ite_self, Nat.reduceEqDiff, Nat.reduceAdd, Nat.reduceSub, Nat.reduceMul, Nat.reduceLeDiff, Nat.reduceLT, Nat.reduceBEq, Int.reduceLE, Int.reduceLT, Int.reduceNeg, Int.reduceAdd, Int.reduceSub, Int.reduceToNat, ↓reduceIte, reduceCtorEq, ↓ixShip, ↓ixCall, ↓ixLet, ↓ixRep, eq_self, decide_true, decide_false, if_true, if_false, not_true_eq_false, List.append_eq, List.length_nil])
  ((refine ACall.pure (l1) ?_; try simp (maxSteps := 4000000) only [↓VP, VQ, ite_self, Nat.reduceEqDiff, Nat.reduceAdd, Nat.reduceSub, Nat.reduceMul, Nat.reduceLeDiff, Nat.reduceLT, Nat.reduceBEq, Int.reduceLE, Int.reduceLT, Int.reduceNeg, Int.reduceAdd, Int.reduceSub, Int.reduceToNat, ↓reduceIte, reduceCtorEq, ↓ixShip, ↓ixCall, ↓ixLet, ↓ixRep]); try simp (maxSteps := 4000000) only [↓VP, VQ, ite_self, Nat.reduceEqDiff, Nat.reduceAdd, Nat.reduceSub, Nat.reduceMul, Nat.reduceLeDiff, Nat.reduceLT, Nat.reduceBEq, Int.reduceLE, Int.reduceLT, Int.reduceNeg, Int.reduceAdd, Int.reduceSub, Int.reduceToNat, ↓reduceIte, reduceCtorEq, ↓ixShip, ↓ixCall, ↓ixLet, ↓ixRep, eq_self, decide_true, decide_false, if_true, if_false, not_true_eq_false, List.append_eq])
  refine ALoop.freeze 12 ?_
  simp (maxSteps := 4000000) only [↓VP, VQ, ite_self, Nat.reduceEqDiff, Nat.reduceAdd, Nat.reduceSub, Nat.reduceMul, Nat.reduceLeDiff, Nat.reduceLT, Nat.reduceBEq, Int.reduceLE, Int.reduceLT, Int.reduceNeg, Int.reduceAdd, Int.reduceSub, Int.reduceToNat, ↓reduceIte, reduceCtorEq, ↓ixShip, ↓ixCall, ↓ixLet, ↓ixRep]
  refine aloop (envCOk _ _ _) (fun s : Nat => ⟨[(2, .v (.int .u8 d)), (10, .v (.slice 2 (f.map fateA))), (12, .v (.eptr [.int .i64 h.ports, .int .i64 Z.lost, .slice 5 (h.ships.map shipA), .slice 3 (Z.letters.map letA), .slice 4 (Z.reports.map repA)])), (13, .v (.slice 1 (O.map (AV.int .i64)))), (16, .v (.slice 1 (S.1.map (AV.int .i64)))), (17, .v (.slice 1 (S.2.1.map (AV.int .i64)))), (19, .v (.slice 1 (LL.map (AV.int .i64)))), (20, .v (.int .i64 s))], [], [], m⟩)
    (fun s => s ≤ h.ships.length) (fun s => h.ships.length - s) 0 (fun _ => rfl) (by simp) (by (simp only [Fits, fitsV, fitsO, fitsL, ↓upd, ↓lookV, ↓lookO, ↓lookL, Nat.reduceEqDiff, ↓reduceIte, ints, and_true, true_and, Option.some.injEq]); simp) ?_
  intro s hsl
  have hh1s := hh1 s
  have hh2s := hh2 s
  have hh3s := hh3 s
  have k2s := k2 s
  simp (maxSteps := 4000000) only [↓VP, VQ, ite_self, Nat.reduceEqDiff, Nat.reduceAdd, Nat.reduceSub, Nat.reduceMul, Nat.reduceLeDiff, Nat.reduceLT, Nat.reduceBEq, Int.reduceLE, Int.reduceLT, Int.reduceNeg, Int.reduceAdd, Int.reduceSub, Int.reduceToNat, ↓reduceIte, reduceCtorEq, ↓ixShip, ↓ixCall, ↓ixLet, ↓ixRep]
  repeat' (first | intro _ | refine And.intro ?_ ?_)
  all_goals try (first | omega | (simp only [List.length_map, List.length_cons, List.length_nil, List.length_append, Nat.zero_add]; omega) | exact nnC _ | exact nlC (by decide) _ | exact nbC rfl)
  · have hs : s < h.ships.length := by omega
    have k3 := k2s hs
    have c1s := c1 s
    have c2s := c2 s
    have dys := fun p : Nat => dy s (p : Int)
    have inss := ins s
    by_cases q : (s : Int) ∈ LL
    · rw [decide_eq_true q] at hh1s
      rw [decide_eq_true (k3.1 q)] at hh2s
      ((refine ACall.pure (hh1s) ?_; try simp (maxSteps := 4000000) only [↓VP, VQ, ite_self, Nat.reduceEqDiff, Nat.reduceAdd, Nat.reduceSub, Nat.reduceMul, Nat.reduceLeDiff, Nat.reduceLT, Nat.reduceBEq, Int.reduceLE, Int.reduceLT, Int.reduceNeg, Int.reduceAdd, Int.reduceSub, Int.reduceToNat, ↓reduceIte, reduceCtorEq, ↓ixShip, ↓ixCall, ↓ixLet, ↓ixRep]); try simp (maxSteps := 4000000) only [↓VP, VQ, ite_self, Nat.reduceEqDiff, Nat.reduceAdd, Nat.reduceSub, Nat.reduceMul, Nat.reduceLeDiff, Nat.reduceLT, Nat.reduceBEq, Int.reduceLE, Int.reduceLT, Int.reduceNeg, Int.reduceAdd, Int.reduceSub, Int.reduceToNat, ↓reduceIte, reduceCtorEq, ↓ixShip, ↓ixCall, ↓ixLet, ↓ixRep, eq_self, decide_true, decide_false, if_true, if_false, not_true_eq_false, List.append_eq])
      ((refine ACall.pure (hh2s) ?_; try simp (maxSteps := 4000000) only [↓VP, VQ, ite_self, Nat.reduceEqDiff, Nat.reduceAdd, Nat.reduceSub, Nat.reduceMul, Nat.reduceLeDiff, Nat.reduceLT, Nat.reduceBEq, Int.reduceLE, Int.reduceLT, Int.reduceNeg, Int.reduceAdd, Int.reduceSub, Int.reduceToNat, ↓reduceIte, reduceCtorEq, ↓ixShip, ↓ixCall, ↓ixLet, ↓ixRep]); try simp (maxSteps := 4000000) only [↓VP, VQ, ite_self, Nat.reduceEqDiff, Nat.reduceAdd, Nat.reduceSub, Nat.reduceMul, Nat.reduceLeDiff, Nat.reduceLT, Nat.reduceBEq, Int.reduceLE, Int.reduceLT, Int.reduceNeg, Int.reduceAdd, Int.reduceSub, Int.reduceToNat, ↓reduceIte, reduceCtorEq, ↓ixShip, ↓ixCall, ↓ixLet, ↓ixRep, eq_self, decide_true, decide_false, if_true, if_false, not_true_eq_false, List.append_eq])
      ((refine ACall.pure (hh1s) ?_; try simp (maxSteps := 4000000) only [↓VP, VQ, ite_self, Nat.reduceEqDiff, Nat.reduceAdd, Nat.reduceSub, Nat.reduceMul, Nat.reduceLeDiff, Nat.reduceLT, Nat.reduceBEq, Int.reduceLE, Int.reduceLT, Int.reduceNeg, Int.reduceAdd, Int.reduceSub, Int.reduceToNat, ↓reduceIte, reduceCtorEq, ↓ixShip, ↓ixCall, ↓ixLet, ↓ixRep]); try simp (maxSteps := 4000000) only [↓VP, VQ, ite_self, Nat.reduceEqDiff, Nat.reduceAdd, Nat.reduceSub, Nat.reduceMul, Nat.reduceLeDiff, Nat.reduceLT, Nat.reduceBEq, Int.reduceLE, Int.reduceLT, Int.reduceNeg, Int.reduceAdd, Int.reduceSub, Int.reduceToNat, ↓reduceIte, reduceCtorEq, ↓ixShip, ↓ixCall, ↓ixLet, ↓ixRep, eq_self, decide_true, decide_false, if_true, if_false, not_true_eq_false, List.append_eq])
      refine aloop (envCOk _ _ _) (fun p : Nat => ⟨[(2, .v (.int .u8 d)), (10, .v (.slice 2 (f.map fateA))), (12, .v (.eptr [.int .i64 h.ports, .int .i64 Z.lost, .slice 5 (h.ships.map shipA), .slice 3 (Z.letters.map letA), .slice 4 (Z.reports.map repA)])), (13, .v (.slice 1 (O.map (AV.int .i64)))), (16, .v (.slice 1 (S.1.map (AV.int .i64)))), (17, .v (.slice 1 (S.2.1.map (AV.int .i64)))), (19, .v (.slice 1 (LL.map (AV.int .i64)))), (20, .v (.int .i64 s)), (21, .v (.int .i64 p))], [], [], m⟩)
        (fun p => p ≤ h.ports.toNat) (fun p => h.ports.toNat - p) 0 (fun _ => rfl) (by simp) (by (simp only [Fits, fitsV, fitsO, fitsL, ↓upd, ↓lookV, ↓lookO, ↓lookL, Nat.reduceEqDiff, ↓reduceIte, ints, and_true, true_and, Option.some.injEq]); simp) ?_
      intro p hpp
      have c1p := c1s p
      have c2p := c2s p hs
      have dyp := dys p hs
      have insp := inss p
      simp (maxSteps := 4000000) only [↓VP, VQ, ite_self, Nat.reduceEqDiff, Nat.reduceAdd, Nat.reduceSub, Nat.reduceMul, Nat.reduceLeDiff, Nat.reduceLT, Nat.reduceBEq, Int.reduceLE, Int.reduceLT, Int.reduceNeg, Int.reduceAdd, Int.reduceSub, Int.reduceToNat, ↓reduceIte, reduceCtorEq, ↓ixShip, ↓ixCall, ↓ixLet, ↓ixRep]
      repeat' (first | intro _ | refine And.intro ?_ ?_)
      all_goals try (first | omega | (simp only [List.length_map, List.length_cons, List.length_nil, List.length_append, Nat.zero_add]; omega) | exact nnC _ | exact nlC (by decide) _ | exact nbC rfl)
      · obtain ⟨g1, g2, g3⟩ := c2p (by omega)
        rw [g1] at c1p
        generalize C (s : Int) (p : Int) = cv at *
        generalize Dy s (p : Int) = D at *
        by_cases q : 0 ≤ D
        · obtain ⟨g4, g5⟩ := g2 q
          rw [decide_eq_true g5] at insp
          have q' : ¬ D < 0 := by omega
          ((refine ACall.pure (c1p) ?_; try simp (maxSteps := 4000000) only [↓VP, VQ, ite_self, Nat.reduceEqDiff, Nat.reduceAdd, Nat.reduceSub, Nat.reduceMul, Nat.reduceLeDiff, Nat.reduceLT, Nat.reduceBEq, Int.reduceLE, Int.reduceLT, Int.reduceNeg, Int.reduceAdd, Int.reduceSub, Int.reduceToNat, ↓reduceIte, reduceCtorEq, ↓ixShip, ↓ixCall, ↓ixLet, ↓ixRep]); try simp (maxSteps := 4000000) only [↓VP, VQ, ite_self, Nat.reduceEqDiff, Nat.reduceAdd, Nat.reduceSub, Nat.reduceMul, Nat.reduceLeDiff, Nat.reduceLT, Nat.reduceBEq, Int.reduceLE, Int.reduceLT, Int.reduceNeg, Int.reduceAdd, Int.reduceSub, Int.reduceToNat, ↓reduceIte, reduceCtorEq, ↓ixShip, ↓ixCall, ↓ixLet, ↓ixRep, eq_self, decide_true, decide_false, if_true, if_false, not_true_eq_false, List.append_eq])
          (refine ACall.pure (dyp) ?_; try simp (maxSteps := 4000000) only [↓VP, VQ, ite_self, Nat.reduceEqDiff, Nat.reduceAdd, Nat.reduceSub, Nat.reduceMul, Nat.reduceLeDiff, Nat.reduceLT, Nat.reduceBEq, Int.reduceLE, Int.reduceLT, Int.reduceNeg, Int.reduceAdd, Int.reduceSub, Int.reduceToNat, ↓reduceIte, reduceCtorEq, ↓ixShip, ↓ixCall, ↓ixLet, ↓ixRep, eq_self, decide_true, decide_false, if_true, if_false, not_true_eq_false, List.append_eq, q, q', g4])
          ((refine ACall.pure (insp) ?_; try simp (maxSteps := 4000000) only [↓VP, VQ, ite_self, Nat.reduceEqDiff, Nat.reduceAdd, Nat.reduceSub, Nat.reduceMul, Nat.reduceLeDiff, Nat.reduceLT, Nat.reduceBEq, Int.reduceLE, Int.reduceLT, Int.reduceNeg, Int.reduceAdd, Int.reduceSub, Int.reduceToNat, ↓reduceIte, reduceCtorEq, ↓ixShip, ↓ixCall, ↓ixLet, ↓ixRep]); try simp (maxSteps := 4000000) only [↓VP, VQ, ite_self, Nat.reduceEqDiff, Nat.reduceAdd, Nat.reduceSub, Nat.reduceMul, Nat.reduceLeDiff, Nat.reduceLT, Nat.reduceBEq, Int.reduceLE, Int.reduceLT, Int.reduceNeg, Int.reduceAdd, Int.reduceSub, Int.reduceToNat, ↓reduceIte, reduceCtorEq, ↓ixShip, ↓ixCall, ↓ixLet, ↓ixRep, eq_self, decide_true, decide_false, if_true, if_false, not_true_eq_false, List.append_eq])
          repeat' (first | intro _ | refine And.intro ?_ ?_)
          all_goals try (first | omega | (simp only [List.length_map, List.length_cons, List.length_nil, List.length_append, Nat.zero_add]; omega) | exact nnC _ | exact nlC (by decide) _ | exact nbC rfl)
          (refine ⟨p + 1, by first | omega | (dsimp only; omega), by dsimp only; omega, ?_⟩; (simp only [Fits, fitsV, fitsO, fitsL, ↓upd, ↓lookV, ↓lookO, ↓lookL, Nat.reduceEqDiff, ↓reduceIte, ints, and_true, true_and, Option.some.injEq]); try simp [])
        · have g4 := g3 (by omega)
          have q' : D < 0 := by omega
          ((refine ACall.pure (c1p) ?_; try simp (maxSteps := 4000000) only [↓VP, VQ, ite_self, Nat.reduceEqDiff, Nat.reduceAdd, Nat.reduceSub, Nat.reduceMul, Nat.reduceLeDiff, Nat.reduceLT, Nat.reduceBEq, Int.reduceLE, Int.reduceLT, Int.reduceNeg, Int.reduceAdd, Int.reduceSub, Int.reduceToNat, ↓reduceIte, reduceCtorEq, ↓ixShip, ↓ixCall, ↓ixLet, ↓ixRep]); try simp (maxSteps := 4000000) only [↓VP, VQ, ite_self, Nat.reduceEqDiff, Nat.reduceAdd, Nat.reduceSub, Nat.reduceMul, Nat.reduceLeDiff, Nat.reduceLT, Nat.reduceBEq, Int.reduceLE, Int.reduceLT, Int.reduceNeg, Int.reduceAdd, Int.reduceSub, Int.reduceToNat, ↓reduceIte, reduceCtorEq, ↓ixShip, ↓ixCall, ↓ixLet, ↓ixRep, eq_self, decide_true, decide_false, if_true, if_false, not_true_eq_false, List.append_eq])
          (refine ACall.pure (dyp) ?_; try simp (maxSteps := 4000000) only [↓VP, VQ, ite_self, Nat.reduceEqDiff, Nat.reduceAdd, Nat.reduceSub, Nat.reduceMul, Nat.reduceLeDiff, Nat.reduceLT, Nat.reduceBEq, Int.reduceLE, Int.reduceLT, Int.reduceNeg, Int.reduceAdd, Int.reduceSub, Int.reduceToNat, ↓reduceIte, reduceCtorEq, ↓ixShip, ↓ixCall, ↓ixLet, ↓ixRep, eq_self, decide_true, decide_false, if_true, if_false, not_true_eq_false, List.append_eq, q, q', g4])
          repeat' (first | intro _ | refine And.intro ?_ ?_)
          all_goals try (first | omega | (simp only [List.length_map, List.length_cons, List.length_nil, List.length_append, Nat.zero_add]; omega) | exact nnC _ | exact nlC (by decide) _ | exact nbC rfl)
          (refine ⟨p + 1, by first | omega | (dsimp only; omega), by dsimp only; omega, ?_⟩; (simp only [Fits, fitsV, fitsO, fitsL, ↓upd, ↓lookV, ↓lookO, ↓lookL, Nat.reduceEqDiff, ↓reduceIte, ints, and_true, true_and, Option.some.injEq]); try simp [])
      · (refine ⟨s + 1, by first | omega | (dsimp only; omega), by dsimp only; omega, ?_⟩; (simp only [Fits, fitsV, fitsO, fitsL, ↓upd, ↓lookV, ↓lookO, ↓lookL, Nat.reduceEqDiff, ↓reduceIte, ints, and_true, true_and, Option.some.injEq]); try simp [])
    · rw [decide_eq_false q] at hh1s
      rw [decide_eq_false (k3.2 q)] at hh3s
      ((refine ACall.pure (hh1s) ?_; try simp (maxSteps := 4000000) only [↓VP, VQ, ite_self, Nat.reduceEqDiff, Nat.reduceAdd, Nat.reduceSub, Nat.reduceMul, Nat.reduceLeDiff, Nat.reduceLT, Nat.reduceBEq, Int.reduceLE, Int.reduceLT, Int.reduceNeg, Int.reduceAdd, Int.reduceSub, Int.reduceToNat, ↓reduceIte, reduceCtorEq, ↓ixShip, ↓ixCall, ↓ixLet, ↓ixRep]); try simp (maxSteps := 4000000) only [↓VP, VQ, ite_self, Nat.reduceEqDiff, Nat.reduceAdd, Nat.reduceSub, Nat.reduceMul, Nat.reduceLeDiff, Nat.reduceLT, Nat.reduceBEq, Int.reduceLE, Int.reduceLT, Int.reduceNeg, Int.reduceAdd, Int.reduceSub, Int.reduceToNat, ↓reduceIte, reduceCtorEq, ↓ixShip, ↓ixCall, ↓ixLet, ↓ixRep, eq_self, decide_true, decide_false, if_true, if_false, not_true_eq_false, List.append_eq])
      ((refine ACall.pure (hh1s) ?_; try simp (maxSteps := 4000000) only [↓VP, VQ, ite_self, Nat.reduceEqDiff, Nat.reduceAdd, Nat.reduceSub, Nat.reduceMul, Nat.reduceLeDiff, Nat.reduceLT, Nat.reduceBEq, Int.reduceLE, Int.reduceLT, Int.reduceNeg, Int.reduceAdd, Int.reduceSub, Int.reduceToNat, ↓reduceIte, reduceCtorEq, ↓ixShip, ↓ixCall, ↓ixLet, ↓ixRep]); try simp (maxSteps := 4000000) only [↓VP, VQ, ite_self, Nat.reduceEqDiff, Nat.reduceAdd, Nat.reduceSub, Nat.reduceMul, Nat.reduceLeDiff, Nat.reduceLT, Nat.reduceBEq, Int.reduceLE, Int.reduceLT, Int.reduceNeg, Int.reduceAdd, Int.reduceSub, Int.reduceToNat, ↓reduceIte, reduceCtorEq, ↓ixShip, ↓ixCall, ↓ixLet, ↓ixRep, eq_self, decide_true, decide_false, if_true, if_false, not_true_eq_false, List.append_eq])
      ((refine ACall.pure (hh3s) ?_; try simp (maxSteps := 4000000) only [↓VP, VQ, ite_self, Nat.reduceEqDiff, Nat.reduceAdd, Nat.reduceSub, Nat.reduceMul, Nat.reduceLeDiff, Nat.reduceLT, Nat.reduceBEq, Int.reduceLE, Int.reduceLT, Int.reduceNeg, Int.reduceAdd, Int.reduceSub, Int.reduceToNat, ↓reduceIte, reduceCtorEq, ↓ixShip, ↓ixCall, ↓ixLet, ↓ixRep]); try simp (maxSteps := 4000000) only [↓VP, VQ, ite_self, Nat.reduceEqDiff, Nat.reduceAdd, Nat.reduceSub, Nat.reduceMul, Nat.reduceLeDiff, Nat.reduceLT, Nat.reduceBEq, Int.reduceLE, Int.reduceLT, Int.reduceNeg, Int.reduceAdd, Int.reduceSub, Int.reduceToNat, ↓reduceIte, reduceCtorEq, ↓ixShip, ↓ixCall, ↓ixLet, ↓ixRep, eq_self, decide_true, decide_false, if_true, if_false, not_true_eq_false, List.append_eq])
      refine aloop (envCOk _ _ _) (fun p : Nat => ⟨[(2, .v (.int .u8 d)), (10, .v (.slice 2 (f.map fateA))), (12, .v (.eptr [.int .i64 h.ports, .int .i64 Z.lost, .slice 5 (h.ships.map shipA), .slice 3 (Z.letters.map letA), .slice 4 (Z.reports.map repA)])), (13, .v (.slice 1 (O.map (AV.int .i64)))), (16, .v (.slice 1 (S.1.map (AV.int .i64)))), (17, .v (.slice 1 (S.2.1.map (AV.int .i64)))), (19, .v (.slice 1 (LL.map (AV.int .i64)))), (20, .v (.int .i64 s)), (21, .v (.int .i64 p))], [], [], m⟩)
        (fun p => p ≤ h.ports.toNat) (fun p => h.ports.toNat - p) 0 (fun _ => rfl) (by simp) (by (simp only [Fits, fitsV, fitsO, fitsL, ↓upd, ↓lookV, ↓lookO, ↓lookL, Nat.reduceEqDiff, ↓reduceIte, ints, and_true, true_and, Option.some.injEq]); simp) ?_
      intro p hpp
      have c1p := c1s p
      have c2p := c2s p hs
      have dyp := dys p hs
      have insp := inss p
      simp (maxSteps := 4000000) only [↓VP, VQ, ite_self, Nat.reduceEqDiff, Nat.reduceAdd, Nat.reduceSub, Nat.reduceMul, Nat.reduceLeDiff, Nat.reduceLT, Nat.reduceBEq, Int.reduceLE, Int.reduceLT, Int.reduceNeg, Int.reduceAdd, Int.reduceSub, Int.reduceToNat, ↓reduceIte, reduceCtorEq, ↓ixShip, ↓ixCall, ↓ixLet, ↓ixRep]
      repeat' (first | intro _ | refine And.intro ?_ ?_)
      all_goals try (first | omega | (simp only [List.length_map, List.length_cons, List.length_nil, List.length_append, Nat.zero_add]; omega) | exact nnC _ | exact nlC (by decide) _ | exact nbC rfl)
      · obtain ⟨g1, g2, g3⟩ := c2p (by omega)
        rw [g1] at c1p
        generalize C (s : Int) (p : Int) = cv at *
        generalize Dy s (p : Int) = D at *
        by_cases q : 0 ≤ D
        · obtain ⟨g4, g5⟩ := g2 q
          rw [decide_eq_true g5] at insp
          have q' : ¬ D < 0 := by omega
          ((refine ACall.pure (c1p) ?_; try simp (maxSteps := 4000000) only [↓VP, VQ, ite_self, Nat.reduceEqDiff, Nat.reduceAdd, Nat.reduceSub, Nat.reduceMul, Nat.reduceLeDiff, Nat.reduceLT, Nat.reduceBEq, Int.reduceLE, Int.reduceLT, Int.reduceNeg, Int.reduceAdd, Int.reduceSub, Int.reduceToNat, ↓reduceIte, reduceCtorEq, ↓ixShip, ↓ixCall, ↓ixLet, ↓ixRep]); try simp (maxSteps := 4000000) only [↓VP, VQ, ite_self, Nat.reduceEqDiff, Nat.reduceAdd, Nat.reduceSub, Nat.reduceMul, Nat.reduceLeDiff, Nat.reduceLT, Nat.reduceBEq, Int.reduceLE, Int.reduceLT, Int.reduceNeg, Int.reduceAdd, Int.reduceSub, Int.reduceToNat, ↓reduceIte, reduceCtorEq, ↓ixShip, ↓ixCall, ↓ixLet, ↓ixRep, eq_self, decide_true, decide_false, if_true, if_false, not_true_eq_false, List.append_eq])
          (refine ACall.pure (dyp) ?_; try simp (maxSteps := 4000000) only [↓VP, VQ, ite_self, Nat.reduceEqDiff, Nat.reduceAdd, Nat.reduceSub, Nat.reduceMul, Nat.reduceLeDiff, Nat.reduceLT, Nat.reduceBEq, Int.reduceLE, Int.reduceLT, Int.reduceNeg, Int.reduceAdd, Int.reduceSub, Int.reduceToNat, ↓reduceIte, reduceCtorEq, ↓ixShip, ↓ixCall, ↓ixLet, ↓ixRep, eq_self, decide_true, decide_false, if_true, if_false, not_true_eq_false, List.append_eq, q, q', g4])
          ((refine ACall.pure (insp) ?_; try simp (maxSteps := 4000000) only [↓VP, VQ, ite_self, Nat.reduceEqDiff, Nat.reduceAdd, Nat.reduceSub, Nat.reduceMul, Nat.reduceLeDiff, Nat.reduceLT, Nat.reduceBEq, Int.reduceLE, Int.reduceLT, Int.reduceNeg, Int.reduceAdd, Int.reduceSub, Int.reduceToNat, ↓reduceIte, reduceCtorEq, ↓ixShip, ↓ixCall, ↓ixLet, ↓ixRep]); try simp (maxSteps := 4000000) only [↓VP, VQ, ite_self, Nat.reduceEqDiff, Nat.reduceAdd, Nat.reduceSub, Nat.reduceMul, Nat.reduceLeDiff, Nat.reduceLT, Nat.reduceBEq, Int.reduceLE, Int.reduceLT, Int.reduceNeg, Int.reduceAdd, Int.reduceSub, Int.reduceToNat, ↓reduceIte, reduceCtorEq, ↓ixShip, ↓ixCall, ↓ixLet, ↓ixRep, eq_self, decide_true, decide_false, if_true, if_false, not_true_eq_false, List.append_eq])
          repeat' (first | intro _ | refine And.intro ?_ ?_)
          all_goals try (first | omega | (simp only [List.length_map, List.length_cons, List.length_nil, List.length_append, Nat.zero_add]; omega) | exact nnC _ | exact nlC (by decide) _ | exact nbC rfl)
          (refine ⟨p + 1, by first | omega | (dsimp only; omega), by dsimp only; omega, ?_⟩; (simp only [Fits, fitsV, fitsO, fitsL, ↓upd, ↓lookV, ↓lookO, ↓lookL, Nat.reduceEqDiff, ↓reduceIte, ints, and_true, true_and, Option.some.injEq]); try simp [])
        · have g4 := g3 (by omega)
          have q' : D < 0 := by omega
          ((refine ACall.pure (c1p) ?_; try simp (maxSteps := 4000000) only [↓VP, VQ, ite_self, Nat.reduceEqDiff, Nat.reduceAdd, Nat.reduceSub, Nat.reduceMul, Nat.reduceLeDiff, Nat.reduceLT, Nat.reduceBEq, Int.reduceLE, Int.reduceLT, Int.reduceNeg, Int.reduceAdd, Int.reduceSub, Int.reduceToNat, ↓reduceIte, reduceCtorEq, ↓ixShip, ↓ixCall, ↓ixLet, ↓ixRep]); try simp (maxSteps := 4000000) only [↓VP, VQ, ite_self, Nat.reduceEqDiff, Nat.reduceAdd, Nat.reduceSub, Nat.reduceMul, Nat.reduceLeDiff, Nat.reduceLT, Nat.reduceBEq, Int.reduceLE, Int.reduceLT, Int.reduceNeg, Int.reduceAdd, Int.reduceSub, Int.reduceToNat, ↓reduceIte, reduceCtorEq, ↓ixShip, ↓ixCall, ↓ixLet, ↓ixRep, eq_self, decide_true, decide_false, if_true, if_false, not_true_eq_false, List.append_eq])
          (refine ACall.pure (dyp) ?_; try simp (maxSteps := 4000000) only [↓VP, VQ, ite_self, Nat.reduceEqDiff, Nat.reduceAdd, Nat.reduceSub, Nat.reduceMul, Nat.reduceLeDiff, Nat.reduceLT, Nat.reduceBEq, Int.reduceLE, Int.reduceLT, Int.reduceNeg, Int.reduceAdd, Int.reduceSub, Int.reduceToNat, ↓reduceIte, reduceCtorEq, ↓ixShip, ↓ixCall, ↓ixLet, ↓ixRep, eq_self, decide_true, decide_false, if_true, if_false, not_true_eq_false, List.append_eq, q, q', g4])
          repeat' (first | intro _ | refine And.intro ?_ ?_)
          all_goals try (first | omega | (simp only [List.length_map, List.length_cons, List.length_nil, List.length_append, Nat.zero_add]; omega) | exact nnC _ | exact nlC (by decide) _ | exact nbC rfl)
          (refine ⟨p + 1, by first | omega | (dsimp only; omega), by dsimp only; omega, ?_⟩; (simp only [Fits, fitsV, fitsO, fitsL, ↓upd, ↓lookV, ↓lookO, ↓lookL, Nat.reduceEqDiff, ↓reduceIte, ints, and_true, true_and, Option.some.injEq]); try simp [])
      · (refine ⟨s + 1, by first | omega | (dsimp only; omega), by dsimp only; omega, ?_⟩; (simp only [Fits, fitsV, fitsO, fitsL, ↓upd, ↓lookV, ↓lookO, ↓lookL, Nat.reduceEqDiff, ↓reduceIte, ints, and_true, true_and, Option.some.injEq]); try simp [])
  · simp (maxSteps := 4000000) only [↓VP, VQ, ite_self, Nat.reduceEqDiff, Nat.reduceAdd, Nat.reduceSub, Nat.reduceMul, Nat.reduceLeDiff, Nat.reduceLT, Nat.reduceBEq, Int.reduceLE, Int.reduceLT, Int.reduceNeg, Int.reduceAdd, Int.reduceSub, Int.reduceToNat, ↓reduceIte, reduceCtorEq, ↓ixShip, ↓ixCall, ↓ixLet, ↓ixRep, m61]
    repeat' (first | intro _ | refine And.intro ?_ ?_)
    all_goals try (first | omega | (simp only [List.length_map, List.length_cons, List.length_nil, List.length_append, Nat.zero_add]; omega) | exact nnC _ | exact nlC (by decide) _ | exact nbC rfl)
    refine aloop (envCOk _ _ _) (fun j : Nat => ⟨[(10, .v (.slice 2 (f.map fateA))), (12, .v (.eptr [.int .i64 h.ports, .int .i64 Z.lost, .slice 5 (h.ships.map shipA), .slice 3 (Z.letters.map letA), .slice 4 (Z.reports.map repA)])), (13, .v (.slice 1 (O.map (AV.int .i64)))), (26, .v (.int .i64 u)), (27, .v (.int .i64 j))], [], [], m⟩)
      (fun j => j ≤ K) (fun j => K - j) 0 (fun _ => rfl) (by simp) (by (simp only [Fits, fitsV, fitsO, fitsL, ↓upd, ↓lookV, ↓lookO, ↓lookL, Nat.reduceEqDiff, ↓reduceIte, ints, and_true, true_and, Option.some.injEq]); simp) ?_
    intro j hj
    have cmj := cm j u
    have btj := bt j
    have hb3j := hb3 j
    have cm2j := cm2 j u
    have bt2j := bt2 j
    have owj := ow j
    have dyj := fun (q : (O[j]!).toNat < h.ships.length) => dy (O[j]!).toNat (Z.letters[j]!).port q
    simp (maxSteps := 4000000) only [↓VP, VQ, ite_self, Nat.reduceEqDiff, Nat.reduceAdd, Nat.reduceSub, Nat.reduceMul, Nat.reduceLeDiff, Nat.reduceLT, Nat.reduceBEq, Int.reduceLE, Int.reduceLT, Int.reduceNeg, Int.reduceAdd, Int.reduceSub, Int.reduceToNat, ↓reduceIte, reduceCtorEq, ↓ixShip, ↓ixCall, ↓ixLet, ↓ixRep]
    repeat' (first | intro _ | refine And.intro ?_ ?_)
    all_goals try (first | omega | (simp only [List.length_map, List.length_cons, List.length_nil, List.length_append, Nat.zero_add]; omega) | exact nnC _ | exact nlC (by decide) _ | exact nbC rfl)
    · have hjk : j < K := by omega
      obtain ⟨g1, g2, g3⟩ := cm2j hjk (by omega)
      obtain ⟨g4, g5⟩ := bt2j hjk
      obtain ⟨g6, g7⟩ := owj hjk
      have dyk := dyj g7
      rw [← g6] at dyk
      rw [g1] at cmj
      rw [g4] at btj
      rw [decide_eq_true g5] at hb3j
      ((refine ACall.pure (cmj) ?_; try simp (maxSteps := 4000000) only [↓VP, VQ, ite_self, Nat.reduceEqDiff, Nat.reduceAdd, Nat.reduceSub, Nat.reduceMul, Nat.reduceLeDiff, Nat.reduceLT, Nat.reduceBEq, Int.reduceLE, Int.reduceLT, Int.reduceNeg, Int.reduceAdd, Int.reduceSub, Int.reduceToNat, ↓reduceIte, reduceCtorEq, ↓ixShip, ↓ixCall, ↓ixLet, ↓ixRep]); try simp (maxSteps := 4000000) only [↓VP, VQ, ite_self, Nat.reduceEqDiff, Nat.reduceAdd, Nat.reduceSub, Nat.reduceMul, Nat.reduceLeDiff, Nat.reduceLT, Nat.reduceBEq, Int.reduceLE, Int.reduceLT, Int.reduceNeg, Int.reduceAdd, Int.reduceSub, Int.reduceToNat, ↓reduceIte, reduceCtorEq, ↓ixShip, ↓ixCall, ↓ixLet, ↓ixRep, eq_self, decide_true, decide_false, if_true, if_false, not_true_eq_false, List.append_eq])
      ((refine ACall.pure (btj) ?_; try simp (maxSteps := 4000000) only [↓VP, VQ, ite_self, Nat.reduceEqDiff, Nat.reduceAdd, Nat.reduceSub, Nat.reduceMul, Nat.reduceLeDiff, Nat.reduceLT, Nat.reduceBEq, Int.reduceLE, Int.reduceLT, Int.reduceNeg, Int.reduceAdd, Int.reduceSub, Int.reduceToNat, ↓reduceIte, reduceCtorEq, ↓ixShip, ↓ixCall, ↓ixLet, ↓ixRep]); try simp (maxSteps := 4000000) only [↓VP, VQ, ite_self, Nat.reduceEqDiff, Nat.reduceAdd, Nat.reduceSub, Nat.reduceMul, Nat.reduceLeDiff, Nat.reduceLT, Nat.reduceBEq, Int.reduceLE, Int.reduceLT, Int.reduceNeg, Int.reduceAdd, Int.reduceSub, Int.reduceToNat, ↓reduceIte, reduceCtorEq, ↓ixShip, ↓ixCall, ↓ixLet, ↓ixRep, eq_self, decide_true, decide_false, if_true, if_false, not_true_eq_false, List.append_eq])
      (refine adraw (by first | exact envOk _ | exact envCOk _ _ _) mixed [⟨false, false, 0⟩, ⟨false, false, 0⟩, ⟨false, false, 0⟩, ⟨false, false, 0⟩, ⟨false, false, 0⟩, ⟨false, false, 0⟩, ⟨false, false, 0⟩, ⟨false, false, 0⟩, ⟨false, false, 0⟩, ⟨false, false, 0⟩, ⟨false, false, 0⟩, ⟨false, false, 0⟩, ⟨false, false, 0⟩, ⟨false, false, 0⟩] (by kernel_rfl) ?_; show vcOpsD _ _ _ (_ :: _) _ _)
      simp (maxSteps := 4000000) only [↓VP, VQ, ite_self, Nat.reduceEqDiff, Nat.reduceAdd, Nat.reduceSub, Nat.reduceMul, Nat.reduceLeDiff, Nat.reduceLT, Nat.reduceBEq, Int.reduceLE, Int.reduceLT, Int.reduceNeg, Int.reduceAdd, Int.reduceSub, Int.reduceToNat, ↓reduceIte, reduceCtorEq, ↓ixShip, ↓ixCall, ↓ixLet, ↓ixRep, ↓ixZ]
      repeat' (first | intro _ | refine And.intro ?_ ?_)
      all_goals try (first | omega | (simp only [List.length_map, List.length_cons, List.length_nil, List.length_append, Nat.zero_add]; omega) | exact nnC _ | exact nlC (by decide) _ | exact nbC rfl)
      refine VPure.of dyk ?_
      generalize Dy (O[j]!).toNat (Z.letters[j]!).port = D at *
      have hun : untilB D (u : Int) = (decide (0 ≤ D) && decide (D ≤ (u : Int))) := rfl
      rw [hun] at g2 g3
      simp (maxSteps := 4000000) only [↓VP, VQ, ite_self, Nat.reduceEqDiff, Nat.reduceAdd, Nat.reduceSub, Nat.reduceMul, Nat.reduceLeDiff, Nat.reduceLT, Nat.reduceBEq, Int.reduceLE, Int.reduceLT, Int.reduceNeg, Int.reduceAdd, Int.reduceSub, Int.reduceToNat, ↓reduceIte, reduceCtorEq, ↓ixShip, ↓ixCall, ↓ixLet, ↓ixRep]
      repeat' (first | intro _ | refine And.intro ?_ ?_)
      all_goals try (first | omega | (simp only [List.length_map, List.length_cons, List.length_nil, List.length_append, Nat.zero_add]; omega) | exact nnC _ | exact nlC (by decide) _ | exact nbC rfl)
      · have q1 : 0 ≤ D := by assumption
        by_cases q2 : D ≤ (u : Int)
        · have g8 := g2 (by rw [decide_eq_true q1, decide_eq_true q2]; rfl)
          (refine ACall.pure (hb3j) ?_; try simp (maxSteps := 4000000) only [↓VP, VQ, ite_self, Nat.reduceEqDiff, Nat.reduceAdd, Nat.reduceSub, Nat.reduceMul, Nat.reduceLeDiff, Nat.reduceLT, Nat.reduceBEq, Int.reduceLE, Int.reduceLT, Int.reduceNeg, Int.reduceAdd, Int.reduceSub, Int.reduceToNat, ↓reduceIte, reduceCtorEq, ↓ixShip, ↓ixCall, ↓ixLet, ↓ixRep, eq_self, decide_true, decide_false, if_true, if_false, not_true_eq_false, List.append_eq, q2, g8, not_true_eq_false])
          repeat' (first | intro _ | refine And.intro ?_ ?_)
          all_goals try (first | omega | (simp only [List.length_map, List.length_cons, List.length_nil, List.length_append, Nat.zero_add]; omega) | exact nnC _ | exact nlC (by decide) _ | exact nbC rfl)
          (refine ⟨j + 1, by first | omega | (dsimp only; omega), by dsimp only; omega, ?_⟩; (simp only [Fits, fitsV, fitsO, fitsL, ↓upd, ↓lookV, ↓lookO, ↓lookL, Nat.reduceEqDiff, ↓reduceIte, ints, and_true, true_and, Option.some.injEq]); try simp [])
        · have g8 := g3 (by rw [decide_eq_false q2, Bool.and_false])
          (refine ACall.pure (hb3j) ?_; try simp (maxSteps := 4000000) only [↓VP, VQ, ite_self, Nat.reduceEqDiff, Nat.reduceAdd, Nat.reduceSub, Nat.reduceMul, Nat.reduceLeDiff, Nat.reduceLT, Nat.reduceBEq, Int.reduceLE, Int.reduceLT, Int.reduceNeg, Int.reduceAdd, Int.reduceSub, Int.reduceToNat, ↓reduceIte, reduceCtorEq, ↓ixShip, ↓ixCall, ↓ixLet, ↓ixRep, eq_self, decide_true, decide_false, if_true, if_false, not_true_eq_false, List.append_eq, q2, g8, not_false_eq_true])
          repeat' (first | intro _ | refine And.intro ?_ ?_)
          all_goals try (first | omega | (simp only [List.length_map, List.length_cons, List.length_nil, List.length_append, Nat.zero_add]; omega) | exact nnC _ | exact nlC (by decide) _ | exact nbC rfl)
          (refine ⟨j + 1, by first | omega | (dsimp only; omega), by dsimp only; omega, ?_⟩; (simp only [Fits, fitsV, fitsO, fitsL, ↓upd, ↓lookV, ↓lookO, ↓lookL, Nat.reduceEqDiff, ↓reduceIte, ints, and_true, true_and, Option.some.injEq]); try simp [])
      · have q1 : ¬ 0 ≤ D := by assumption
        have g8 := g3 (by rw [decide_eq_false q1, Bool.false_and])
        (refine ACall.pure (hb3j) ?_; try simp (maxSteps := 4000000) only [↓VP, VQ, ite_self, Nat.reduceEqDiff, Nat.reduceAdd, Nat.reduceSub, Nat.reduceMul, Nat.reduceLeDiff, Nat.reduceLT, Nat.reduceBEq, Int.reduceLE, Int.reduceLT, Int.reduceNeg, Int.reduceAdd, Int.reduceSub, Int.reduceToNat, ↓reduceIte, reduceCtorEq, ↓ixShip, ↓ixCall, ↓ixLet, ↓ixRep, eq_self, decide_true, decide_false, if_true, if_false, not_true_eq_false, List.append_eq, g8])
        repeat' (first | intro _ | refine And.intro ?_ ?_)
        all_goals try (first | omega | (simp only [List.length_map, List.length_cons, List.length_nil, List.length_append, Nat.zero_add]; omega) | exact nnC _ | exact nlC (by decide) _ | exact nbC rfl)
        (refine ⟨j + 1, by first | omega | (dsimp only; omega), by dsimp only; omega, ?_⟩; (simp only [Fits, fitsV, fitsO, fitsL, ↓upd, ↓lookV, ↓lookO, ↓lookL, Nat.reduceEqDiff, ↓reduceIte, ints, and_true, true_and, Option.some.injEq]); try simp [])
    · ((refine ACall.pure (aw) ?_; try simp (maxSteps := 4000000) only [↓VP, VQ, ite_self, Nat.reduceEqDiff, Nat.reduceAdd, Nat.reduceSub, Nat.reduceMul, Nat.reduceLeDiff, Nat.reduceLT, Nat.reduceBEq, Int.reduceLE, Int.reduceLT, Int.reduceNeg, Int.reduceAdd, Int.reduceSub, Int.reduceToNat, ↓reduceIte, reduceCtorEq, ↓ixShip, ↓ixCall, ↓ixLet, ↓ixRep]); try simp (maxSteps := 4000000) only [↓VP, VQ, ite_self, Nat.reduceEqDiff, Nat.reduceAdd, Nat.reduceSub, Nat.reduceMul, Nat.reduceLeDiff, Nat.reduceLT, Nat.reduceBEq, Int.reduceLE, Int.reduceLT, Int.reduceNeg, Int.reduceAdd, Int.reduceSub, Int.reduceToNat, ↓reduceIte, reduceCtorEq, ↓ixShip, ↓ixCall, ↓ixLet, ↓ixRep, eq_self, decide_true, decide_false, if_true, if_false, not_true_eq_false, List.append_eq])

theorem shipTrue_c (h : RHarb) (hf : HFit h) (n : Nat) (hn : n < 65536) (ys : List Nat) (hy : ∀ x ∈ ys, x < 256) (d : Nat) (hd : d < 256) : PCall Try.prog 7 [harbA h, .agg [.int .u16 n, .slice 1 (u8s ys)], .int .u8 d] (.bool true) := by
  by_cases e : (checkH h).2.2 = 0
  · exact shipTrue_ok h hf n hn ys hy d hd e
  · exact shipTrue_bad h hf n ys d e
end Go.Proofs.Ytnfmmhmfbipkjaa.Abs

namespace Go.Proofs.Ytnfmmhmfbipkjaa.Abs
set_option linter.unusedSimpArgs false
open Go Go.RowKit Go.Proofs
set_option maxRecDepth 100000

theorem cells5 : Try.prog.cellsOf 5 = 1 := by kernel_rfl
theorem open_past {l : List AV} (h : GoodT Try.prog 54 l) : ∃ (n : Nat) (ys : List Nat), n < 65536 ∧ (∀ x ∈ ys, x < 256) ∧ packT Try.prog 54 l = .agg [.int .u16 n, .slice 1 (u8s ys)] := by
  obtain ⟨ls, hl, hp, hf⟩ := h.struct_inv Try.underlying54
  obtain ⟨a, ha, _, haw⟩ := (hf 0 _ rfl).int_inv Try.underlying51
  obtain ⟨k, rfl, hk⟩ := wf_u16 haw
  obtain ⟨ys, hys, _, _, hy, _⟩ := (hf 1 _ rfl).slice_inv Try.underlying52 (fun (n : Nat) => AV.int .u8 n) (fun n => n < 256) fun l hl => by
    obtain ⟨n, h1, h2, h3⟩ := hl.int_inv Try.underlying5
    obtain ⟨k, rfl, hk⟩ := wf_u8 h3
    exact ⟨k, hk, h2⟩
  rw [cells5] at hys
  refine ⟨k, ys, hk, hy, ?_⟩
  rw [hp, hl]
  show AV.agg ((List.range 2).flatMap ls) = _
  rw [range2]
  simp only [List.flatMap_cons, List.flatMap_nil, ha, hys]
  rfl
theorem plain54 : (Try.prog.readableRec 54 = true ∧ 54 < Try.prog.types.size) ∧ plainT Try.prog 7 54 = true := ⟨⟨by kernel_rfl, of_decide_eq_true (by kernel_rfl)⟩, by kernel_rfl⟩
end Go.Proofs.Ytnfmmhmfbipkjaa.Abs

namespace Go.Proofs.Ytnfmmhmfbipkjaa
set_option linter.unusedSimpArgs false
open Go Go.RowKit Go.Proofs Abs
set_option maxRecDepth 100000

theorem shipTrue_types : LawTypes Try.prog Try.f7 [26, 54, 5] 4 7 := by
  refine ⟨by rw [Try.params7], by kernel_rfl, Try.underlying4, laid_ok, fun t h => ?_⟩
  simp only [List.mem_cons, List.not_mem_nil, or_false] at h
  rcases h with rfl | rfl | rfl
  · exact plain26
  · exact plain54
  · exact plain5

theorem shipTrue_all (xs : List AV) (h : GoodAll Try.prog [26, 54, 5] xs) : ∃ K : AV → Mem → Prop, ACall Try.prog 7 xs (fun _ => .none) K ∧ ∀ r m, K r m → r = .bool true := by
  match xs, h with
  | [a0, a1, a2], ⟨⟨l0, g0, h0⟩, ⟨l1, g1, h1⟩, ⟨l2, g2, h2⟩, _⟩ =>
    obtain ⟨h, hh, e0⟩ := open_harbour g0
    obtain ⟨n, ys, hn, hy, e1⟩ := open_past g1
    obtain ⟨d, e2, hd⟩ := open_byte g2
    rw [h0, e0, h1, e1, h2, e2]
    exact ⟨_, shipTrue_c h hh n hn ys hy d hd _, fun r m h => h.1⟩

theorem shipTrue_lifted (os : Os) (started : os.Started) (H : Type) (enc : TypeId × Value → H) :
    ReturnsInHanded {} Try.checked os 7 .any (Rows.shipTrueSpec.pre6 enc Try.prog Try.f7 Rows.shipTrueRow.domain false) (Rows.shipTrueSpec.post enc Try.prog Try.f7 false true false false) := by
  refine returnsInHanded_of_change_sized (C := Try.checked) own_ok started (by kernel_rfl) Try.func7
    (ChangeSpec.witness6 (enc := enc) (C := Try.checked) false ⟨#[], #[.agg #[.int .i64 0, .int .i64 0, .slice .none 0 0, .slice .none 0 0, .slice .none 0 0], .agg #[.int .u16 0, .slice .none 0 0], .int .u8 0], []⟩ 8 (by kernel_rfl) (by kernel_rfl) (by kernel_rfl) (by kernel_rfl)) ?_
  intro W base args ds gs before hval hW _ hz _
  refine law_contract shipTrue_types rfl (fun ds hds => ?_) shipTrue_all W base args ds gs before hval hW hz
  match ds, hds with
  | [d0, d1, d2], _ => rfl

theorem shipTrue_holds : Rows.ShipTrueSaid :=
  OpenClaim.holds_of_wide 7 Try.f7 rfl rfl rfl rfl rfl rfl rfl ⟨rfl, rfl, rfl, rfl, rfl⟩ rfl rfl rfl rfl rfl (by kernel_rfl) Try.func7 (by kernel_rfl)
    (of_decide_eq_true (by kernel_rfl)) (by unfold Func.isWrapper; first | (rw [if_pos (by decide +kernel)]; kernel_rfl) | (rw [if_neg (by decide +kernel)]; exact ⟨rfl, rfl⟩))
    (fun os started H enc _ => shipTrue_lifted os started H enc)
end Go.Proofs.Ytnfmmhmfbipkjaa
