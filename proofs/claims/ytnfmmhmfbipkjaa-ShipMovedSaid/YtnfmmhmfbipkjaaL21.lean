/- The statement ShipMoved: for any harbour and numbers the law returns true. Conditions: none. -/
import Derived.Test.YtnfmmhmfbipkjaaW13
namespace Go.Proofs.Ytnfmmhmfbipkjaa.Abs
set_option linter.unusedSimpArgs false
open Go Go.RowKit Go.Proofs

def mvS (d : Int) (s : RShip) : RShip := { s with sails := s.sails + d }
def mvL (d : Int) (l : RLet) : RLet := { l with day := l.day + d }
def mvR (d : Int) (r : RRep) : RRep := { r with day := r.day + d }
def movH (h : RHarb) (d : Int) : RHarb := { h with ships := h.ships.map (mvS d), letters := h.letters.map (mvL d), reports := h.reports.map (mvR d) }

theorem map_at {α β : Type} [Inhabited α] [Inhabited β] {l : List α} (f : α → β) {i : Nat} (hi : i < l.length) : (l.map f)[i]! = f (l[i]!) := by
  rw [getD_any (by simpa using hi), getD_any hi, List.getElem_map]

theorem mov_ship {h : RHarb} {d : Int} {s : Nat} (hs : s < h.ships.length) : (movH h d).ships[s]! = mvS d (h.ships[s]!) := map_at _ hs
theorem mov_letter {h : RHarb} {d : Int} {k : Nat} (hk : k < h.letters.length) : (movH h d).letters[k]! = mvL d (h.letters[k]!) := map_at _ hk
theorem mov_report {h : RHarb} {d : Int} {i : Nat} (hi : i < h.reports.length) : (movH h d).reports[i]! = mvR d (h.reports[i]!) := map_at _ hi

theorem all_mov (d : Int) : ∀ (l : List RShip) (out : List (List Fate)), (l.map (mvS d)).foldl stepR out = l.foldl stepR out
  | [], _ => rfl
  | _ :: l, out => by
    simp only [List.map_cons, List.foldl_cons]
    exact all_mov d l _
theorem lost_mov (d : Int) : ∀ (l : List RShip) (f : List Fate), lostN (l.map (mvS d)) f = lostN l f
  | [], _ => rfl
  | _ :: _, [] => rfl
  | s :: l, x :: f => by
    simp only [List.map_cons, lostN, lost_mov d l f]
    rfl
theorem fleets_mov (h : RHarb) (d : Int) : fleetsR (movH h d).ships (movH h d).lost = fleetsR h.ships h.lost := by
  unfold fleetsR allR
  show ((h.ships.map (mvS d)).foldl stepR [[]]).filter (fun f => decide (lostN (h.ships.map (mvS d)) f ≤ h.lost)) = _
  rw [all_mov]
  simp only [lost_mov]

theorem day_mov {h : RHarb} (hh : HOk h) {f : List Fate} (hf : FOk h f) {s : Nat} (hs : s < h.ships.length) (port d : Int) :
    (dayR h f s port = -1 ∧ dayR (movH h d) f s port = -1) ∨ (0 ≤ dayR h f s port ∧ dayR (movH h d) f s port = dayR h f s port + d) := by
  have h2 := hf.late s (by have := hf.n; omega)
  have h3 := (hh.ship s hs).sails
  unfold dayR
  rw [mov_ship hs]
  show _ ∨ (_ ∧ (if atC (h.ships[s]!).calls port < 0 ∨ (f[s]!).made ≤ atC (h.ships[s]!).calls port then -1 else (h.ships[s]!).sails + d + ((h.ships[s]!).calls[(atC (h.ships[s]!).calls port).toNat]!).after + (f[s]!).late) = _)
  by_cases q : atC (h.ships[s]!).calls port < 0 ∨ (f[s]!).made ≤ atC (h.ships[s]!).calls port
  · left
    rw [if_pos q]
    exact ⟨rfl, if_pos q⟩
  · right
    rw [if_neg q, if_neg q]
    have h1 := (hh.ship s hs).call _ (atC_in (show 0 ≤ atC (h.ships[s]!).calls port by omega))
    generalize ((h.ships[s]!).calls[(atC (h.ships[s]!).calls port).toNat]!) = c at *
    omega

theorem so_mov {r : RRep} {d x y : Int} (hr : 0 ≤ r.day) (hd : 0 ≤ d) (e : (x = -1 ∧ y = -1) ∨ (0 ≤ x ∧ y = x + d)) : soB (mvR d r) y = soB r x := by
  unfold soB untilB
  show (if r.kind = 0 ∨ r.kind = 2 then decide (y = r.day + d) else !(decide (0 ≤ y) && decide (y ≤ r.day + d))) = _
  rcases e with ⟨rfl, rfl⟩ | ⟨e1, rfl⟩
  · split
    · exact decide_eq_decide.2 (by omega)
    · rfl
  · split
    · exact decide_eq_decide.2 (by omega)
    · rw [decide_eq_true (show 0 ≤ x + d by omega), decide_eq_true e1]
      exact congrArg (fun b => !(true && b)) (decide_eq_decide.2 (by omega))

theorem takes_mov {s : RShip} {port day d : Int} : takesB (mvS d s) port (day + d) = takesB s port day := by
  unfold takesB
  show (decide (day + d ≤ s.sails + d) && _) = _
  rw [decide_eq_decide.2 (show day + d ≤ s.sails + d ↔ day ≤ s.sails by omega)]
  rfl

section
variable {h : RHarb} (hh : HOk h) {d : Int} (hd : 0 ≤ d)
include hh hd

theorem said_mov {f : List Fate} (hf : FOk h f) (but : List Int) : saidB (movH h d) f but (movH h d).reports.length = saidB h f but h.reports.length := by
  have hn : (movH h d).reports.length = h.reports.length := List.length_map _
  rw [hn]
  unfold saidB
  refine all_congr fun i hi => ?_
  have hr := hh.report i hi
  unfold ofS
  rw [mov_report hi]
  show (!(decide ((h.reports[i]!).kind < 2) && decide ((i : Int) ∉ but)) || soB (mvR d (h.reports[i]!)) (dayR (movH h d) f (h.reports[i]!).of_.toNat (h.reports[i]!).port)) = _
  by_cases q : (h.reports[i]!).kind < 2
  · rw [if_pos q] at hr
    rw [so_mov hr.2.2.2.1 hd (day_mov hh hf (by omega) _ d)]
  · rw [decide_eq_false q]; rfl

theorem reps_mov {f : List Fate} (hf : FOk h f) (but : List Int) {k s : Nat} (hk : k < h.letters.length) (hs : s < h.ships.length) : repsB (movH h d) f k but s (movH h d).reports.length = repsB h f k but s h.reports.length := by
  have hn : (movH h d).reports.length = h.reports.length := List.length_map _
  rw [hn]
  unfold repsB
  refine all_congr fun i hi => ?_
  have hr := hh.report i hi
  unfold ofB
  rw [mov_report hi, mov_letter hk]
  show (!(decide (2 ≤ (h.reports[i]!).kind) && (decide ((h.reports[i]!).of_ = (k : Int)) && decide ((i : Int) ∉ but))) || soB (mvR d (h.reports[i]!)) (dayR (movH h d) f s (h.letters[k]!).port)) = _
  rw [so_mov hr.2.2.2.1 hd (day_mov hh hf hs _ d)]

theorem can_mov {f : List Fate} (hf : FOk h f) (but : List Int) {k s : Nat} (hk : k < h.letters.length) (hs : s < h.ships.length) : canB (movH h d) f k but s = canB h f k but s := by
  unfold canB
  rw [reps_mov hh hd hf but hk hs]
  refine congrArg (fun b => b && _) ?_
  unfold shipB
  rw [mov_ship hs, mov_letter hk]
  show (takesB (mvS d (h.ships[s]!)) (h.letters[k]!).port ((h.letters[k]!).day + d) && _) = _
  rw [takes_mov]
  rfl

theorem could_mov {f : List Fate} (hf : FOk h f) (but : List Int) {k : Nat} (hk : k < h.letters.length) : couldL (movH h d) f k but (movH h d).ships.length = couldL h f k but h.ships.length := by
  have hn : (movH h d).ships.length = h.ships.length := List.length_map _
  rw [hn]
  unfold couldL
  refine congrArg (List.map _) (List.filter_congr fun s hs => ?_)
  exact can_mov hh hd hf but hk (List.mem_range.1 hs)

theorem true_mov {f : List Fate} (hf : FOk h f) (but : List Int) : trueB (movH h d) but f = trueB h but f := by
  unfold trueB
  rw [said_mov hh hd hf]
  refine congrArg (fun b => saidB h f but h.reports.length && b) ?_
  have hn : (movH h d).letters.length = h.letters.length := List.length_map _
  rw [hn]
  unfold goB
  exact all_congr fun k hk => by rw [could_mov hh hd hf but hk]

theorem truths_mov (but : List Int) : truthsR (movH h d) but = truthsR h but := by
  unfold truthsR
  rw [fleets_mov]
  rw [List.filter_congr fun f hf => true_mov hh hd (fleets_fok hh hf) but]
  refine List.map_congr_left fun f hf => ?_
  have hf := fleets_fok hh (List.mem_filter.1 hf).1
  unfold truOf byTo
  have hn : (movH h d).letters.length = h.letters.length := List.length_map _
  rw [hn]
  refine congrArg (fun l => (⟨f, l⟩ : RTru)) (List.map_congr_left fun k hk => ?_)
  exact could_mov hh hd hf but (List.mem_range.1 hk)
end

theorem known_mov {h : RHarb} (hh : HOk h) {d : Int} (hd : 0 ≤ d) (e : Int) : knownR (movH h d) e = knownR h e := by
  unfold knownR
  rw [truths_mov hh hd]

theorem lostL_mov {h : RHarb} {d : Int} {f : List Fate} (hf : FOk h f) : lostL (movH h d) f f.length = lostL h f f.length := by
  unfold lostL
  refine congrArg (List.map _) (List.filter_congr fun i hi => ?_)
  have hi := List.mem_range.1 hi
  rw [mov_ship (by have := hf.n; omega)]
  rfl

theorem sinkN_mov {h : RHarb} (hh : HOk h) {d : Int} {T : List RTru} (hT : ∀ t ∈ T, FOk h t.fleet) (s : Nat) : ∀ n, n ≤ T.length → sinkN (movH h d) T s n = sinkN h T s n
  | 0, _ => rfl
  | n + 1, hn => by
    unfold sinkN
    rw [sinkN_mov hh hT s n (by omega)]
    rw [lostL_mov (hT _ (at_mem (by omega)))]

theorem sunk_mov {h : RHarb} (e : (checkH h).2.2 = 0) {d : Int} (hd : 0 ≤ d) (e' : (checkH (movH h d)).2.2 = 0) : sunkR (movH h d) = sunkR h := by
  have hh := hok_check e
  unfold sunkR
  rw [e, e', known_mov hh hd]
  by_cases q : (knownR h 0).2 = 0
  · rw [if_pos q, if_pos q]
    obtain ⟨_, q2, _⟩ := known_zero q
    have hT : ∀ t ∈ (knownR h 0).1, FOk h t.fleet := fun t ht => by rw [q2] at ht; exact truths_fok hh ht
    have hn : (movH h d).ships.length = h.ships.length := List.length_map _
    unfold sureTo mayTo
    rw [hn]
    simp only [sinkN_mov hh hT _ _ (Nat.le_refl _)]
  · rw [if_neg q, if_neg q]

theorem wrong_mov {h : RHarb} (e : (checkH h).2.2 = 0) {d : Int} (hd : 0 ≤ d) (e' : (checkH (movH h d)).2.2 = 0) : wrongR (movH h d) = wrongR h := by
  have hh := hok_check e
  unfold wrongR wrongFrom
  have hn : (movH h d).reports.length = h.reports.length := List.length_map _
  have ho : okT (movH h d) = okT h := funext fun l => by unfold okT; rw [truths_mov hh hd]
  rw [e, e', hn, ho]

theorem some_mov {h : RHarb} (e : someB h = true) {d : Int} (hd : 0 ≤ d) (e' : (checkH (movH h d)).2.2 = 0) : someB (movH h d) = true := by
  have hh := hok_check (some_check e)
  unfold someB validB okT
  rw [truths_mov hh hd, decide_eq_true e', decide_eq_true (List.length_pos_iff.2 (some_truths e))]
  rfl

theorem calls_mov {h : RHarb} (e : someB h = true) {d : Int} (hd : 0 ≤ d) (e' : (checkH (movH h d)).2.2 = 0) {s : Nat} (hs : s < h.ships.length) {port : Int} (hp : 0 ≤ port ∧ port ≤ h.ports - 1) :
    (callsR h s port).2.2 = 0 ∧ (callsR (movH h d) s port).2.2 = 0 ∧ (callsR (movH h d) s port).2.1 = (callsR h s port).2.1 ∧
    ((callsR h s port).2.1 ≠ 2 → (callsR (movH h d) s port).1.1 = (callsR h s port).1.1 + d ∧ (callsR (movH h d) s port).1.2 = (callsR h s port).1.2 + d) := by
  have hh := hok_check (some_check e)
  have hs' : s < (movH h d).ships.length := by rw [show (movH h d).ships.length = h.ships.length from List.length_map _]; exact hs
  have hp' : 0 ≤ port ∧ port ≤ (movH h d).ports - 1 := hp
  rw [callsR_some e hs hp, callsR_some (some_mov e hd e') hs' hp', truths_mov hh hd]
  have a1 := called_mem (h := h) (s := s) (port := port) (truthsR h [])
  have a2 := called_mem (h := movH h d) (s := s) (port := port) (truthsR h [])
  have p1 := some_pos e
  have hday : ∀ t ∈ truthsR h [], _ := fun t ht => day_mov hh (truths_fok hh ht) hs port d
  generalize truthsR h [] = T at *
  generalize calledTo h T s port T.length = C at *
  generalize calledTo (movH h d) T s port T.length = C' at *
  obtain ⟨h1, h2, h3, h4⟩ := a1
  obtain ⟨g1, g2, g3, g4⟩ := a2
  have i1 : C'.2 = (T.length : Int) ↔ C.2 = (T.length : Int) := by
    rw [g1, h1]
    constructor
    · intro q t ht; have := q t ht; have := hday t ht; omega
    · intro q t ht; have := q t ht; have := hday t ht; omega
  have i2 : C'.2 = 0 ↔ C.2 = 0 := by
    rw [g2, h2]
    constructor
    · intro q t ht; have := q t ht; have := hday t ht; omega
    · intro q t ht; have := q t ht; have := hday t ht; omega
  refine ⟨rfl, rfl, settled_same i1 i2, fun q => ?_⟩
  dsimp only at q ⊢
  have hne : C.2 ≠ 0 := fun w => q ((settled_never p1).2 w)
  obtain ⟨w1, ⟨t1, m1, n1, o1⟩, t2, m2, n2, o2⟩ := h4 hne
  obtain ⟨x1, ⟨u1, k1, l1, r1⟩, u2, k2, l2, r2⟩ := g4 fun w => hne (i2.1 w)
  have y1 := hday t1 m1
  have y2 := hday t2 m2
  have y3 := hday u1 k1
  have y4 := hday u2 k2
  have z1 := x1 t1 m1 (by omega)
  have z2 := x1 t2 m2 (by omega)
  have z3 := w1 u1 k1 (by omega)
  have z4 := w1 u2 k2 (by omega)
  omega

theorem calls_span {h : RHarb} (e : someB h = true) {s : Nat} (hs : s < h.ships.length) {port : Int} (hp : 0 ≤ port ∧ port ≤ h.ports - 1) :
    (0 ≤ (callsR h s port).1.1 ∧ (callsR h s port).1.1 ≤ 60) ∧ 0 ≤ (callsR h s port).1.2 ∧ (callsR h s port).1.2 ≤ 60 := by
  have hh := hok_check (some_check e)
  rw [callsR_some e hs hp]
  obtain ⟨h1, h2, h3, h4⟩ := called_mem (h := h) (s := s) (port := port) (truthsR h [])
  have hday : ∀ t ∈ truthsR h [], _ := fun t ht => dayR_le hh (truths_fok hh ht) hs port
  dsimp only
  by_cases q : (calledTo h (truthsR h []) s port (truthsR h []).length).2 = 0
  · rw [h3 q]; decide
  · obtain ⟨_, ⟨t1, m1, n1, o1⟩, t2, m2, n2, o2⟩ := h4 q
    have := hday t1 m1
    have := hday t2 m2
    omega

theorem by_mov {h : RHarb} (e : someB h = true) {d : Int} (hd : 0 ≤ d) (e' : (checkH (movH h d)).2.2 = 0) {l : Nat} (hl : l < h.letters.length) : (byR h l).2 = 0 ∧ byR (movH h d) l = byR h l := by
  have hh := hok_check (some_check e)
  have hl' : l < (movH h d).letters.length := by rw [show (movH h d).letters.length = h.letters.length from List.length_map _]; exact hl
  rw [byR_some e hl, byR_some (some_mov e hd e') hl', truths_mov hh hd, show (movH h d).ships.length = h.ships.length from List.length_map _]
  exact ⟨rfl, rfl⟩
end Go.Proofs.Ytnfmmhmfbipkjaa.Abs

namespace Go.Proofs.Ytnfmmhmfbipkjaa.Abs
set_option linter.unusedSimpArgs false
set_option maxHeartbeats 4000000
set_option maxRecDepth 100000
open Go Go.RowKit Go.Proofs

def mvShips (h : RHarb) (d : Int) (i : Nat) : List AV := ((h.ships.take i).map (mvS d)).map shipA
def mvLets (h : RHarb) (d : Int) (i : Nat) : List AV := ((h.letters.take i).map (mvL d)).map letA
def mvReps (h : RHarb) (d : Int) (i : Nat) : List AV := ((h.reports.take i).map (mvR d)).map repA
theorem mvShips_succ {h : RHarb} {d : Int} {i : Nat} (hi : i < h.ships.length) : mvShips h d (i + 1) = mvShips h d i ++ [.agg [.str (h.ships[i]!).name, .int .i64 ((h.ships[i]!).sails + d), .slice 2 ((h.ships[i]!).calls.map callA), .int .i64 (h.ships[i]!).lo, .int .i64 (h.ships[i]!).hi]] := by
  unfold mvShips
  rw [List.take_succ_eq_append_getElem hi, List.map_append, List.map_append, getD_any hi]; rfl
theorem mvLets_succ {h : RHarb} {d : Int} {i : Nat} (hi : i < h.letters.length) : mvLets h d (i + 1) = mvLets h d i ++ [.agg [.int .i64 (h.letters[i]!).port, .int .i64 ((h.letters[i]!).day + d), .int .i64 (h.letters[i]!).ship]] := by
  unfold mvLets
  rw [List.take_succ_eq_append_getElem hi, List.map_append, List.map_append, getD_any hi]; rfl
theorem mvReps_succ {h : RHarb} {d : Int} {i : Nat} (hi : i < h.reports.length) : mvReps h d (i + 1) = mvReps h d i ++ [.agg [.int .i64 (h.reports[i]!).kind, .int .i64 (h.reports[i]!).of_, .int .i64 (h.reports[i]!).port, .int .i64 ((h.reports[i]!).day + d)]] := by
  unfold mvReps
  rw [List.take_succ_eq_append_getElem hi, List.map_append, List.map_append, getD_any hi]; rfl
theorem mvShips_length (h : RHarb) (d : Int) (i : Nat) : (mvShips h d i).length ≤ i := by unfold mvShips; simp; omega
theorem mvLets_length (h : RHarb) (d : Int) (i : Nat) : (mvLets h d i).length ≤ i := by unfold mvLets; simp; omega
theorem mvReps_length (h : RHarb) (d : Int) (i : Nat) : (mvReps h d i).length ≤ i := by unfold mvReps; simp; omega
theorem mov_harb (h : RHarb) (d : Int) : harbA (movH h d) = .agg [.int .i64 h.ports, .int .i64 h.lost, .slice 5 (mvShips h d h.ships.length), .slice 3 (mvLets h d h.letters.length), .slice 4 (mvReps h d h.reports.length)] := by
  unfold mvShips mvLets mvReps
  rw [List.take_length, List.take_length, List.take_length]; rfl

theorem mov_names {h : RHarb} (hf : hnamesFit h) (d : Int) : hnamesFit (movH h d) := fun s hs => by
  obtain ⟨t, ht, rfl⟩ := List.mem_map.1 hs
  exact hf t ht

theorem natMod6 (a : Nat) : ((a : Int) % 6) = ((a % 6 : Nat) : Int) := (Int.natCast_emod a 6).symm

theorem shipMoved_bad (h : RHarb) (hf : HFit h) (x y z w : Nat) (e : validB h = false) : PCall Try.prog 14 [harbA h, .agg [.int .u8 x, .int .u8 y, .int .u8 z, .int .u8 w]] (.bool true) := by
  intro m
  have a1 := valid_c h hf.names
  rw [e] at a1
  have aw := awake_c
  simp only [harbA, harbL, ints] at *
  (refine acall_intro (E := envC (modeAt [6, 8, 10, 12, 25, 28] []) false []) (envCOk _ _ _) rfl Try.func14 rfl Try.call14 (by kernel_rfl) (by simp [Try.ntmps14]) ?_; simp only [Try.f14];  simp (maxSteps := 4000000) only [↓VP, VQ, ite_self, Nat.reduceEqDiff, Nat.reduceAdd, Nat.reduceSub, Nat.reduceMul, Nat.reduceLeDiff, Nat.reduceLT, Nat.reduceBEq, Int.reduceLE, Int.reduceLT, Int.reduceNeg, Int.reduceAdd, Int.reduceSub, Int.reduceToNat, ↓reduceIte, reduceCtorEq, ↓ixShip, ↓ixCall, ↓ixLet, ↓ixRep, Int.reduceEq])
  ((refine ACall.pure (a1) ?_; try simp (maxSteps := 4000000) only [↓VP, VQ, ite_self, Nat.reduceEqDiff, Nat.reduceAdd, Nat.reduceSub, Nat.reduceMul, Nat.reduceLeDiff, Nat.reduceLT, Nat.reduceBEq, Int.reduceLE, Int.reduceLT, Int.reduceNeg, Int.reduceAdd, Int.reduceSub, Int.reduceToNat, ↓reduceIte, reduceCtorEq, ↓ixShip, ↓ixCall, ↓ixLet, ↓ixRep]); try simp (maxSteps := 4000000) only [↓VP, VQ, ite_self, Nat.reduceEqDiff, Nat.reduceAdd, Nat.reduceSub, Nat.reduceMul, Nat.reduceLeDiff, Nat.reduceLT, Nat.reduceBEq, Int.reduceLE, Int.reduceLT, Int.reduceNeg, Int.reduceAdd, Int.reduceSub, Int.reduceToNat, ↓reduceIte, reduceCtorEq, ↓ixShip, ↓ixCall, ↓ixLet, ↓ixRep, eq_self, decide_true, decide_false, if_true, if_false, not_true_eq_false, List.append_eq])
  ((refine ACall.pure (aw) ?_; try simp (maxSteps := 4000000) only [↓VP, VQ, ite_self, Nat.reduceEqDiff, Nat.reduceAdd, Nat.reduceSub, Nat.reduceMul, Nat.reduceLeDiff, Nat.reduceLT, Nat.reduceBEq, Int.reduceLE, Int.reduceLT, Int.reduceNeg, Int.reduceAdd, Int.reduceSub, Int.reduceToNat, ↓reduceIte, reduceCtorEq, ↓ixShip, ↓ixCall, ↓ixLet, ↓ixRep]); try simp (maxSteps := 4000000) only [↓VP, VQ, ite_self, Nat.reduceEqDiff, Nat.reduceAdd, Nat.reduceSub, Nat.reduceMul, Nat.reduceLeDiff, Nat.reduceLT, Nat.reduceBEq, Int.reduceLE, Int.reduceLT, Int.reduceNeg, Int.reduceAdd, Int.reduceSub, Int.reduceToNat, ↓reduceIte, reduceCtorEq, ↓ixShip, ↓ixCall, ↓ixLet, ↓ixRep, eq_self, decide_true, decide_false, if_true, if_false, not_true_eq_false, List.append_eq])

theorem shipMoved_ok (h : RHarb) (hf : HFit h) (x y z w : Nat) (hx : x < 256) (hy : y < 256) (hz : z < 256) (hw : w < 256) (e : validB h = true) : PCall Try.prog 14 [harbA h, .agg [.int .u8 x, .int .u8 y, .int .u8 z, .int .u8 w]] (.bool true) := by
  intro m
  have ec : (checkH h).2.2 = 0 := of_decide_eq_true e
  have hh := hok_check ec
  have hn := hh.n
  have hnl := hh.nl
  have hnr := hh.nr
  have hp := hh.p
  have a1 := valid_c h hf.names
  rw [e] at a1
  have aw := awake_c
  have m6 := natMod6 x
  have hd6 : x % 6 < 6 := Nat.mod_lt _ (by decide)
  generalize x % 6 = d at *
  have hd : (0 : Int) ≤ d := Int.natCast_nonneg d
  have hnm := mov_names hf.names (d : Int)
  have a2 := valid_c (movH h d) hnm
  have s1 := sunk_top h hf.names
  have s2 := sunk_top (movH h d) hnm
  have w1 := wrong_top h hf.names
  have w2 := wrong_top (movH h d) hnm
  have hS := fun (q : 0 < h.ships.length) => Nat.mod_lt y q
  have mS := natMod y h.ships.length
  have hP : 0 ≤ (z : Int) % h.ports ∧ (z : Int) % h.ports ≤ h.ports - 1 := ⟨Int.emod_nonneg _ (by omega), by have := Int.emod_lt_of_pos (z : Int) (show 0 < h.ports by omega); omega⟩
  have hO := fun (q : 0 < h.letters.length) => Nat.mod_lt w q
  have mO := natMod w h.letters.length
  generalize hPd : (z : Int) % h.ports = p at *
  generalize y % h.ships.length = s at *
  generalize w % h.letters.length = o at *
  have c1 := callsP_c h hf.names s p hf.ports
  have c2 := callsP_c (movH h d) hnm s p hf.ports
  have y1 := by_top h hf.names o
  have y2 := by_top (movH h d) hnm o
  have fs : validB (movH h d) = true → sunkR (movH h d) = sunkR h := fun q => sunk_mov ec hd (of_decide_eq_true q)
  have fw : validB (movH h d) = true → wrongR (movH h d) = wrongR h := fun q => wrong_mov ec hd (of_decide_eq_true q)
  have fc := fun (q : validB (movH h d) = true) (q2 : (sunkR h).2.2 = 0) (q3 : 0 < h.ships.length) => calls_mov (sunkR_some_of q2) hd (of_decide_eq_true q) (hS q3) hP
  have fd := fun (q2 : (sunkR h).2.2 = 0) (q3 : 0 < h.ships.length) => calls_span (sunkR_some_of q2) (hS q3) hP
  have fy := fun (q : validB (movH h d) = true) (q2 : (sunkR h).2.2 = 0) (q3 : 0 < h.letters.length) => by_mov (sunkR_some_of q2) hd (of_decide_eq_true q) (hO q3)
  rw [mov_harb] at a2 s2 w2 c2 y2
  generalize validB (movH h d) = b at *
  generalize sunkR (movH h d) = S2 at *
  generalize sunkR h = S1 at *
  generalize wrongR (movH h d) = W2 at *
  generalize wrongR h = W1 at *
  generalize callsR (movH h d) s p = C2 at *
  generalize callsR h s p = C1 at *
  generalize byR (movH h d) o = Y2 at *
  generalize byR h o = Y1 at *
  have i1 := ints_c S1.1 S1.1
  have i2 := ints_c S1.2.1 S1.2.1
  have i3 := ints_c W1.1 W1.1
  have i4 := ints_c Y1.1 Y1.1
  simp only [harbA, harbL, ints] at *
  (refine acall_intro (E := envC (modeAt [6, 8, 10, 12, 25, 28] []) false []) (envCOk _ _ _) rfl Try.func14 rfl Try.call14 (by kernel_rfl) (by simp [Try.ntmps14]) ?_; simp only [Try.f14];  simp (maxSteps := 4000000) only [↓VP, VQ, ite_self, Nat.reduceEqDiff, Nat.reduceAdd, Nat.reduceSub, Nat.reduceMul, Nat.reduceLeDiff, Nat.reduceLT, Nat.reduceBEq, Int.reduceLE, Int.reduceLT, Int.reduceNeg, Int.reduceAdd, Int.reduceSub, Int.reduceToNat, ↓reduceIte, reduceCtorEq, ↓ixShip, ↓ixCall, ↓ixLet, ↓ixRep, Int.reduceEq])
  ((refine ACall.pure (a1) ?_; try simp (maxSteps := 4000000) only [↓VP, VQ, ite_self, Nat.reduceEqDiff, Nat.reduceAdd, Nat.reduceSub, Nat.reduceMul, Nat.reduceLeDiff, Nat.reduceLT, Nat.reduceBEq, Int.reduceLE, Int.reduceLT, Int.reduceNeg, Int.reduceAdd, Int.reduceSub, Int.reduceToNat, ↓reduceIte, reduceCtorEq, ↓ixShip, ↓ixCall, ↓ixLet, ↓ixRep]); try simp (maxSteps := 4000000) only [↓VP, VQ, ite_self, Nat.reduceEqDiff, Nat.reduceAdd, Nat.reduceSub, Nat.reduceMul, Nat.reduceLeDiff, Nat.reduceLT, Nat.reduceBEq, Int.reduceLE, Int.reduceLT, Int.reduceNeg, Int.reduceAdd, Int.reduceSub, Int.reduceToNat, ↓reduceIte, reduceCtorEq, ↓ixShip, ↓ixCall, ↓ixLet, ↓ixRep, eq_self, decide_true, decide_false, if_true, if_false, not_true_eq_false, List.append_eq])
  simp (maxSteps := 4000000) only [↓VP, VQ, ite_self, Nat.reduceEqDiff, Nat.reduceAdd, Nat.reduceSub, Nat.reduceMul, Nat.reduceLeDiff, Nat.reduceLT, Nat.reduceBEq, Int.reduceLE, Int.reduceLT, Int.reduceNeg, Int.reduceAdd, Int.reduceSub, Int.reduceToNat, ↓reduceIte, reduceCtorEq, ↓ixShip, ↓ixCall, ↓ixLet, ↓ixRep, m6]
  repeat' (first | intro _ | refine And.intro ?_ ?_)
  all_goals try (first | omega | (simp only [List.length_map, List.length_cons, List.length_nil, List.length_append, Nat.zero_add]; omega) | exact nnC _ | exact nlC (by decide) _ | exact nbC rfl)
  refine aloop (envCOk _ _ _) (fun i : Nat => ⟨[(2, .v (.eptr [.int .i64 h.ports, .int .i64 h.lost, .slice 5 (h.ships.map shipA), .slice 3 (h.letters.map letA), .slice 4 (h.reports.map repA)])), (3, .v (.eptr [.int .u8 x, .int .u8 y, .int .u8 z, .int .u8 w])), (5, .v (.int .i64 d)), (6, .loc 6 0), (7, .v (.int .i64 i))], [], [(6, [.int .i64 h.ports, .int .i64 h.lost, .slice 5 (mvShips h d i), .slice 3 [], .slice 4 []])], m⟩)
    (fun i => i ≤ h.ships.length) (fun i => h.ships.length - i) 0 (fun _ => rfl) (by simp) (by (simp only [Fits, fitsV, fitsO, fitsL, ↓upd, ↓lookV, ↓lookO, ↓lookL, Nat.reduceEqDiff, ↓reduceIte, ints, and_true, true_and, Option.some.injEq]); simp [mvShips]) ?_
  intro i hi
  have e1 := mvShips_succ (h := h) (d := (d : Int)) (i := i)
  have e2 := mvShips_length h (d : Int) i
  have hso := fun (q : i < h.ships.length) => (hh.ship i q).sails
  simp (maxSteps := 4000000) only [↓VP, VQ, ite_self, Nat.reduceEqDiff, Nat.reduceAdd, Nat.reduceSub, Nat.reduceMul, Nat.reduceLeDiff, Nat.reduceLT, Nat.reduceBEq, Int.reduceLE, Int.reduceLT, Int.reduceNeg, Int.reduceAdd, Int.reduceSub, Int.reduceToNat, ↓reduceIte, reduceCtorEq, ↓ixShip, ↓ixCall, ↓ixLet, ↓ixRep]
  repeat' (first | intro _ | refine And.intro ?_ ?_)
  all_goals try (first | omega | (simp only [List.length_map, List.length_cons, List.length_nil, List.length_append, Nat.zero_add]; omega) | exact nnC _ | exact nlC (by decide) _ | exact nbC rfl)
  all_goals try (have := hso (by omega); omega)
  · have q : i < h.ships.length := by omega
    have e3 := e1 q
    have hsi := hso q
    (refine adraw (by first | exact envOk _ | exact envCOk _ _ _) mixed [⟨false, false, 0⟩, ⟨false, false, 0⟩, ⟨false, false, 0⟩, ⟨false, true, 0⟩, ⟨false, false, 0⟩, ⟨false, false, 0⟩, ⟨false, true, 0⟩, ⟨false, false, 0⟩, ⟨false, false, 0⟩] (by kernel_rfl) ?_; show vcOpsD _ _ _ (_ :: _) _ _)
    simp (maxSteps := 4000000) only [↓VP, VQ, ite_self, Nat.reduceEqDiff, Nat.reduceAdd, Nat.reduceSub, Nat.reduceMul, Nat.reduceLeDiff, Nat.reduceLT, Nat.reduceBEq, Int.reduceLE, Int.reduceLT, Int.reduceNeg, Int.reduceAdd, Int.reduceSub, Int.reduceToNat, ↓reduceIte, reduceCtorEq, ↓ixShip, ↓ixCall, ↓ixLet, ↓ixRep]
    repeat' (first | intro _ | refine And.intro ?_ ?_)
    all_goals try (first | omega | (simp only [List.length_map, List.length_cons, List.length_nil, List.length_append, Nat.zero_add]; omega) | exact nnC _ | exact nlC (by decide) _ | exact nbC rfl)
    (refine ⟨i + 1, by first | omega | (dsimp only; omega), by dsimp only; omega, ?_⟩; (simp only [Fits, fitsV, fitsO, fitsL, ↓upd, ↓lookV, ↓lookO, ↓lookL, Nat.reduceEqDiff, ↓reduceIte, ints, and_true, true_and, Option.some.injEq]); try simp [e3])
  refine aloop (envCOk _ _ _) (fun i : Nat => ⟨[(2, .v (.eptr [.int .i64 h.ports, .int .i64 h.lost, .slice 5 (h.ships.map shipA), .slice 3 (h.letters.map letA), .slice 4 (h.reports.map repA)])), (3, .v (.eptr [.int .u8 x, .int .u8 y, .int .u8 z, .int .u8 w])), (5, .v (.int .i64 d)), (6, .loc 6 0), (9, .v (.int .i64 i))], [], [(6, [.int .i64 h.ports, .int .i64 h.lost, .slice 5 (mvShips h d h.ships.length), .slice 3 (mvLets h d i), .slice 4 []])], m⟩)
    (fun i => i ≤ h.letters.length) (fun i => h.letters.length - i) 0 (fun _ => rfl) (by simp) (by (simp only [Fits, fitsV, fitsO, fitsL, ↓upd, ↓lookV, ↓lookO, ↓lookL, Nat.reduceEqDiff, ↓reduceIte, ints, and_true, true_and, Option.some.injEq]); simp [mvLets, show i = h.ships.length by omega]) ?_
  clear hso e1 e2
  intro i hi
  have e1 := mvLets_succ (h := h) (d := (d : Int)) (i := i)
  have e2 := mvLets_length h (d : Int) i
  have hso := fun (q : i < h.letters.length) => (hh.letter i q).2.1
  simp (maxSteps := 4000000) only [↓VP, VQ, ite_self, Nat.reduceEqDiff, Nat.reduceAdd, Nat.reduceSub, Nat.reduceMul, Nat.reduceLeDiff, Nat.reduceLT, Nat.reduceBEq, Int.reduceLE, Int.reduceLT, Int.reduceNeg, Int.reduceAdd, Int.reduceSub, Int.reduceToNat, ↓reduceIte, reduceCtorEq, ↓ixShip, ↓ixCall, ↓ixLet, ↓ixRep]
  repeat' (first | intro _ | refine And.intro ?_ ?_)
  all_goals try (first | omega | (simp only [List.length_map, List.length_cons, List.length_nil, List.length_append, Nat.zero_add]; omega) | exact nnC _ | exact nlC (by decide) _ | exact nbC rfl)
  all_goals try (have := hso (by omega); omega)
  · have q : i < h.letters.length := by omega
    have e3 := e1 q
    have hsi := hso q
    (refine adraw (by first | exact envOk _ | exact envCOk _ _ _) mixed [⟨false, false, 0⟩, ⟨false, false, 0⟩, ⟨false, false, 0⟩, ⟨false, true, 0⟩, ⟨false, false, 0⟩, ⟨false, false, 0⟩, ⟨false, true, 0⟩, ⟨false, false, 0⟩, ⟨false, false, 0⟩] (by kernel_rfl) ?_; show vcOpsD _ _ _ (_ :: _) _ _)
    simp (maxSteps := 4000000) only [↓VP, VQ, ite_self, Nat.reduceEqDiff, Nat.reduceAdd, Nat.reduceSub, Nat.reduceMul, Nat.reduceLeDiff, Nat.reduceLT, Nat.reduceBEq, Int.reduceLE, Int.reduceLT, Int.reduceNeg, Int.reduceAdd, Int.reduceSub, Int.reduceToNat, ↓reduceIte, reduceCtorEq, ↓ixShip, ↓ixCall, ↓ixLet, ↓ixRep]
    repeat' (first | intro _ | refine And.intro ?_ ?_)
    all_goals try (first | omega | (simp only [List.length_map, List.length_cons, List.length_nil, List.length_append, Nat.zero_add]; omega) | exact nnC _ | exact nlC (by decide) _ | exact nbC rfl)
    (refine ⟨i + 1, by first | omega | (dsimp only; omega), by dsimp only; omega, ?_⟩; (simp only [Fits, fitsV, fitsO, fitsL, ↓upd, ↓lookV, ↓lookO, ↓lookL, Nat.reduceEqDiff, ↓reduceIte, ints, and_true, true_and, Option.some.injEq]); try simp [e3])
  refine aloop (envCOk _ _ _) (fun i : Nat => ⟨[(2, .v (.eptr [.int .i64 h.ports, .int .i64 h.lost, .slice 5 (h.ships.map shipA), .slice 3 (h.letters.map letA), .slice 4 (h.reports.map repA)])), (3, .v (.eptr [.int .u8 x, .int .u8 y, .int .u8 z, .int .u8 w])), (5, .v (.int .i64 d)), (6, .loc 6 0), (11, .v (.int .i64 i))], [], [(6, [.int .i64 h.ports, .int .i64 h.lost, .slice 5 (mvShips h d h.ships.length), .slice 3 (mvLets h d h.letters.length), .slice 4 (mvReps h d i)])], m⟩)
    (fun i => i ≤ h.reports.length) (fun i => h.reports.length - i) 0 (fun _ => rfl) (by simp) (by (simp only [Fits, fitsV, fitsO, fitsL, ↓upd, ↓lookV, ↓lookO, ↓lookL, Nat.reduceEqDiff, ↓reduceIte, ints, and_true, true_and, Option.some.injEq]); simp [mvReps, show i = h.letters.length by omega]) ?_
  clear hso e1 e2
  intro i hi
  have e1 := mvReps_succ (h := h) (d := (d : Int)) (i := i)
  have e2 := mvReps_length h (d : Int) i
  have hso := fun (q : i < h.reports.length) => (hh.report i q).2.2.2
  simp (maxSteps := 4000000) only [↓VP, VQ, ite_self, Nat.reduceEqDiff, Nat.reduceAdd, Nat.reduceSub, Nat.reduceMul, Nat.reduceLeDiff, Nat.reduceLT, Nat.reduceBEq, Int.reduceLE, Int.reduceLT, Int.reduceNeg, Int.reduceAdd, Int.reduceSub, Int.reduceToNat, ↓reduceIte, reduceCtorEq, ↓ixShip, ↓ixCall, ↓ixLet, ↓ixRep]
  repeat' (first | intro _ | refine And.intro ?_ ?_)
  all_goals try (first | omega | (simp only [List.length_map, List.length_cons, List.length_nil, List.length_append, Nat.zero_add]; omega) | exact nnC _ | exact nlC (by decide) _ | exact nbC rfl)
  all_goals try (have := hso (by omega); omega)
  · have q : i < h.reports.length := by omega
    have e3 := e1 q
    have hsi := hso q
    (refine adraw (by first | exact envOk _ | exact envCOk _ _ _) mixed [⟨false, false, 0⟩, ⟨false, false, 0⟩, ⟨false, false, 0⟩, ⟨false, true, 0⟩, ⟨false, false, 0⟩, ⟨false, false, 0⟩, ⟨false, true, 0⟩, ⟨false, false, 0⟩, ⟨false, false, 0⟩] (by kernel_rfl) ?_; show vcOpsD _ _ _ (_ :: _) _ _)
    simp (maxSteps := 4000000) only [↓VP, VQ, ite_self, Nat.reduceEqDiff, Nat.reduceAdd, Nat.reduceSub, Nat.reduceMul, Nat.reduceLeDiff, Nat.reduceLT, Nat.reduceBEq, Int.reduceLE, Int.reduceLT, Int.reduceNeg, Int.reduceAdd, Int.reduceSub, Int.reduceToNat, ↓reduceIte, reduceCtorEq, ↓ixShip, ↓ixCall, ↓ixLet, ↓ixRep]
    repeat' (first | intro _ | refine And.intro ?_ ?_)
    all_goals try (first | omega | (simp only [List.length_map, List.length_cons, List.length_nil, List.length_append, Nat.zero_add]; omega) | exact nnC _ | exact nlC (by decide) _ | exact nbC rfl)
    (refine ⟨i + 1, by first | omega | (dsimp only; omega), by dsimp only; omega, ?_⟩; (simp only [Fits, fitsV, fitsO, fitsL, ↓upd, ↓lookV, ↓lookO, ↓lookL, Nat.reduceEqDiff, ↓reduceIte, ints, and_true, true_and, Option.some.injEq]); try simp [e3])
  have hie : i = h.reports.length := by omega
  subst hie
  ((refine ACall.pure (a2) ?_; try simp (maxSteps := 4000000) only [↓VP, VQ, ite_self, Nat.reduceEqDiff, Nat.reduceAdd, Nat.reduceSub, Nat.reduceMul, Nat.reduceLeDiff, Nat.reduceLT, Nat.reduceBEq, Int.reduceLE, Int.reduceLT, Int.reduceNeg, Int.reduceAdd, Int.reduceSub, Int.reduceToNat, ↓reduceIte, reduceCtorEq, ↓ixShip, ↓ixCall, ↓ixLet, ↓ixRep]); try simp (maxSteps := 4000000) only [↓VP, VQ, ite_self, Nat.reduceEqDiff, Nat.reduceAdd, Nat.reduceSub, Nat.reduceMul, Nat.reduceLeDiff, Nat.reduceLT, Nat.reduceBEq, Int.reduceLE, Int.reduceLT, Int.reduceNeg, Int.reduceAdd, Int.reduceSub, Int.reduceToNat, ↓reduceIte, reduceCtorEq, ↓ixShip, ↓ixCall, ↓ixLet, ↓ixRep, eq_self, decide_true, decide_false, if_true, if_false, not_true_eq_false, List.append_eq])
  repeat' (first | intro _ | refine And.intro ?_ ?_)
  all_goals try (first | omega | (simp only [List.length_map, List.length_cons, List.length_nil, List.length_append, Nat.zero_add]; omega) | exact nnC _ | exact nlC (by decide) _ | exact nbC rfl)
  · ((refine ACall.pure (aw) ?_; try simp (maxSteps := 4000000) only [↓VP, VQ, ite_self, Nat.reduceEqDiff, Nat.reduceAdd, Nat.reduceSub, Nat.reduceMul, Nat.reduceLeDiff, Nat.reduceLT, Nat.reduceBEq, Int.reduceLE, Int.reduceLT, Int.reduceNeg, Int.reduceAdd, Int.reduceSub, Int.reduceToNat, ↓reduceIte, reduceCtorEq, ↓ixShip, ↓ixCall, ↓ixLet, ↓ixRep]); try simp (maxSteps := 4000000) only [↓VP, VQ, ite_self, Nat.reduceEqDiff, Nat.reduceAdd, Nat.reduceSub, Nat.reduceMul, Nat.reduceLeDiff, Nat.reduceLT, Nat.reduceBEq, Int.reduceLE, Int.reduceLT, Int.reduceNeg, Int.reduceAdd, Int.reduceSub, Int.reduceToNat, ↓reduceIte, reduceCtorEq, ↓ixShip, ↓ixCall, ↓ixLet, ↓ixRep, eq_self, decide_true, decide_false, if_true, if_false, not_true_eq_false, List.append_eq])
  · have hb : b = true := by first | assumption | (rw [← Bool.not_eq_false]; assumption)
    obtain rfl := fs hb
    obtain rfl := fw hb
    have fc1 := fc hb
    have fy1 := fy hb
    ((refine ACall.pure (s1) ?_; try simp (maxSteps := 4000000) only [↓VP, VQ, ite_self, Nat.reduceEqDiff, Nat.reduceAdd, Nat.reduceSub, Nat.reduceMul, Nat.reduceLeDiff, Nat.reduceLT, Nat.reduceBEq, Int.reduceLE, Int.reduceLT, Int.reduceNeg, Int.reduceAdd, Int.reduceSub, Int.reduceToNat, ↓reduceIte, reduceCtorEq, ↓ixShip, ↓ixCall, ↓ixLet, ↓ixRep]); try simp (maxSteps := 4000000) only [↓VP, VQ, ite_self, Nat.reduceEqDiff, Nat.reduceAdd, Nat.reduceSub, Nat.reduceMul, Nat.reduceLeDiff, Nat.reduceLT, Nat.reduceBEq, Int.reduceLE, Int.reduceLT, Int.reduceNeg, Int.reduceAdd, Int.reduceSub, Int.reduceToNat, ↓reduceIte, reduceCtorEq, ↓ixShip, ↓ixCall, ↓ixLet, ↓ixRep, eq_self, decide_true, decide_false, if_true, if_false, not_true_eq_false, List.append_eq])
    ((refine ACall.pure (s2) ?_; try simp (maxSteps := 4000000) only [↓VP, VQ, ite_self, Nat.reduceEqDiff, Nat.reduceAdd, Nat.reduceSub, Nat.reduceMul, Nat.reduceLeDiff, Nat.reduceLT, Nat.reduceBEq, Int.reduceLE, Int.reduceLT, Int.reduceNeg, Int.reduceAdd, Int.reduceSub, Int.reduceToNat, ↓reduceIte, reduceCtorEq, ↓ixShip, ↓ixCall, ↓ixLet, ↓ixRep]); try simp (maxSteps := 4000000) only [↓VP, VQ, ite_self, Nat.reduceEqDiff, Nat.reduceAdd, Nat.reduceSub, Nat.reduceMul, Nat.reduceLeDiff, Nat.reduceLT, Nat.reduceBEq, Int.reduceLE, Int.reduceLT, Int.reduceNeg, Int.reduceAdd, Int.reduceSub, Int.reduceToNat, ↓reduceIte, reduceCtorEq, ↓ixShip, ↓ixCall, ↓ixLet, ↓ixRep, eq_self, decide_true, decide_false, if_true, if_false, not_true_eq_false, List.append_eq])
    ((refine ACall.pure (w1) ?_; try simp (maxSteps := 4000000) only [↓VP, VQ, ite_self, Nat.reduceEqDiff, Nat.reduceAdd, Nat.reduceSub, Nat.reduceMul, Nat.reduceLeDiff, Nat.reduceLT, Nat.reduceBEq, Int.reduceLE, Int.reduceLT, Int.reduceNeg, Int.reduceAdd, Int.reduceSub, Int.reduceToNat, ↓reduceIte, reduceCtorEq, ↓ixShip, ↓ixCall, ↓ixLet, ↓ixRep]); try simp (maxSteps := 4000000) only [↓VP, VQ, ite_self, Nat.reduceEqDiff, Nat.reduceAdd, Nat.reduceSub, Nat.reduceMul, Nat.reduceLeDiff, Nat.reduceLT, Nat.reduceBEq, Int.reduceLE, Int.reduceLT, Int.reduceNeg, Int.reduceAdd, Int.reduceSub, Int.reduceToNat, ↓reduceIte, reduceCtorEq, ↓ixShip, ↓ixCall, ↓ixLet, ↓ixRep, eq_self, decide_true, decide_false, if_true, if_false, not_true_eq_false, List.append_eq])
    ((refine ACall.pure (w2) ?_; try simp (maxSteps := 4000000) only [↓VP, VQ, ite_self, Nat.reduceEqDiff, Nat.reduceAdd, Nat.reduceSub, Nat.reduceMul, Nat.reduceLeDiff, Nat.reduceLT, Nat.reduceBEq, Int.reduceLE, Int.reduceLT, Int.reduceNeg, Int.reduceAdd, Int.reduceSub, Int.reduceToNat, ↓reduceIte, reduceCtorEq, ↓ixShip, ↓ixCall, ↓ixLet, ↓ixRep]); try simp (maxSteps := 4000000) only [↓VP, VQ, ite_self, Nat.reduceEqDiff, Nat.reduceAdd, Nat.reduceSub, Nat.reduceMul, Nat.reduceLeDiff, Nat.reduceLT, Nat.reduceBEq, Int.reduceLE, Int.reduceLT, Int.reduceNeg, Int.reduceAdd, Int.reduceSub, Int.reduceToNat, ↓reduceIte, reduceCtorEq, ↓ixShip, ↓ixCall, ↓ixLet, ↓ixRep, eq_self, decide_true, decide_false, if_true, if_false, not_true_eq_false, List.append_eq])
    ((refine ACall.pure (i1) ?_; try simp (maxSteps := 4000000) only [↓VP, VQ, ite_self, Nat.reduceEqDiff, Nat.reduceAdd, Nat.reduceSub, Nat.reduceMul, Nat.reduceLeDiff, Nat.reduceLT, Nat.reduceBEq, Int.reduceLE, Int.reduceLT, Int.reduceNeg, Int.reduceAdd, Int.reduceSub, Int.reduceToNat, ↓reduceIte, reduceCtorEq, ↓ixShip, ↓ixCall, ↓ixLet, ↓ixRep]); try simp (maxSteps := 4000000) only [↓VP, VQ, ite_self, Nat.reduceEqDiff, Nat.reduceAdd, Nat.reduceSub, Nat.reduceMul, Nat.reduceLeDiff, Nat.reduceLT, Nat.reduceBEq, Int.reduceLE, Int.reduceLT, Int.reduceNeg, Int.reduceAdd, Int.reduceSub, Int.reduceToNat, ↓reduceIte, reduceCtorEq, ↓ixShip, ↓ixCall, ↓ixLet, ↓ixRep, eq_self, decide_true, decide_false, if_true, if_false, not_true_eq_false, List.append_eq])
    ((refine ACall.pure (i2) ?_; try simp (maxSteps := 4000000) only [↓VP, VQ, ite_self, Nat.reduceEqDiff, Nat.reduceAdd, Nat.reduceSub, Nat.reduceMul, Nat.reduceLeDiff, Nat.reduceLT, Nat.reduceBEq, Int.reduceLE, Int.reduceLT, Int.reduceNeg, Int.reduceAdd, Int.reduceSub, Int.reduceToNat, ↓reduceIte, reduceCtorEq, ↓ixShip, ↓ixCall, ↓ixLet, ↓ixRep]); try simp (maxSteps := 4000000) only [↓VP, VQ, ite_self, Nat.reduceEqDiff, Nat.reduceAdd, Nat.reduceSub, Nat.reduceMul, Nat.reduceLeDiff, Nat.reduceLT, Nat.reduceBEq, Int.reduceLE, Int.reduceLT, Int.reduceNeg, Int.reduceAdd, Int.reduceSub, Int.reduceToNat, ↓reduceIte, reduceCtorEq, ↓ixShip, ↓ixCall, ↓ixLet, ↓ixRep, eq_self, decide_true, decide_false, if_true, if_false, not_true_eq_false, List.append_eq])
    ((refine ACall.pure (i3) ?_; try simp (maxSteps := 4000000) only [↓VP, VQ, ite_self, Nat.reduceEqDiff, Nat.reduceAdd, Nat.reduceSub, Nat.reduceMul, Nat.reduceLeDiff, Nat.reduceLT, Nat.reduceBEq, Int.reduceLE, Int.reduceLT, Int.reduceNeg, Int.reduceAdd, Int.reduceSub, Int.reduceToNat, ↓reduceIte, reduceCtorEq, ↓ixShip, ↓ixCall, ↓ixLet, ↓ixRep]); try simp (maxSteps := 4000000) only [↓VP, VQ, ite_self, Nat.reduceEqDiff, Nat.reduceAdd, Nat.reduceSub, Nat.reduceMul, Nat.reduceLeDiff, Nat.reduceLT, Nat.reduceBEq, Int.reduceLE, Int.reduceLT, Int.reduceNeg, Int.reduceAdd, Int.reduceSub, Int.reduceToNat, ↓reduceIte, reduceCtorEq, ↓ixShip, ↓ixCall, ↓ixLet, ↓ixRep, eq_self, decide_true, decide_false, if_true, if_false, not_true_eq_false, List.append_eq])
    repeat' (first | intro _ | refine And.intro ?_ ?_)
    all_goals try (first | omega | (simp only [List.length_map, List.length_cons, List.length_nil, List.length_append, Nat.zero_add]; omega) | exact nnC _ | exact nlC (by decide) _ | exact nbC rfl)
    all_goals first
      | (((refine ACall.pure (aw) ?_; try simp (maxSteps := 4000000) only [↓VP, VQ, ite_self, Nat.reduceEqDiff, Nat.reduceAdd, Nat.reduceSub, Nat.reduceMul, Nat.reduceLeDiff, Nat.reduceLT, Nat.reduceBEq, Int.reduceLE, Int.reduceLT, Int.reduceNeg, Int.reduceAdd, Int.reduceSub, Int.reduceToNat, ↓reduceIte, reduceCtorEq, ↓ixShip, ↓ixCall, ↓ixLet, ↓ixRep]); try simp (maxSteps := 4000000) only [↓VP, VQ, ite_self, Nat.reduceEqDiff, Nat.reduceAdd, Nat.reduceSub, Nat.reduceMul, Nat.reduceLeDiff, Nat.reduceLT, Nat.reduceBEq, Int.reduceLE, Int.reduceLT, Int.reduceNeg, Int.reduceAdd, Int.reduceSub, Int.reduceToNat, ↓reduceIte, reduceCtorEq, ↓ixShip, ↓ixCall, ↓ixLet, ↓ixRep, eq_self, decide_true, decide_false, if_true, if_false, not_true_eq_false, List.append_eq]); done)
      | skip
    have fc2 := fc1 (by omega) (by omega)
    obtain ⟨q1, q2, q3, q4⟩ := fc2
    have fd1 := fd (by omega) (by omega)
    rw [q1] at c1
    rw [q2, q3] at c2
    (refine adraw (by first | exact envOk _ | exact envCOk _ _ _) mixed [⟨false, false, 0⟩, ⟨false, false, 0⟩, ⟨false, false, 0⟩, ⟨false, false, 0⟩, ⟨false, false, 0⟩, ⟨false, false, 0⟩, ⟨false, false, 0⟩, ⟨false, false, 0⟩, ⟨false, false, 0⟩, ⟨false, false, 0⟩, ⟨false, false, 0⟩, ⟨false, false, 0⟩, ⟨false, false, 0⟩, ⟨false, false, 0⟩, ⟨false, false, 0⟩] (by kernel_rfl) ?_; show vcOpsD _ _ _ (_ :: _) _ _)
    simp (maxSteps := 4000000) only [↓VP, VQ, ite_self, Nat.reduceEqDiff, Nat.reduceAdd, Nat.reduceSub, Nat.reduceMul, Nat.reduceLeDiff, Nat.reduceLT, Nat.reduceBEq, Int.reduceLE, Int.reduceLT, Int.reduceNeg, Int.reduceAdd, Int.reduceSub, Int.reduceToNat, ↓reduceIte, reduceCtorEq, ↓ixShip, ↓ixCall, ↓ixLet, ↓ixRep, mS, hPd]
    repeat' (first | intro _ | refine And.intro ?_ ?_)
    all_goals try (first | omega | (simp only [List.length_map, List.length_cons, List.length_nil, List.length_append, Nat.zero_add]; omega) | exact nnC _ | exact nlC (by decide) _ | exact nbC rfl)
    ((refine ACall.pure (c1) ?_; try simp (maxSteps := 4000000) only [↓VP, VQ, ite_self, Nat.reduceEqDiff, Nat.reduceAdd, Nat.reduceSub, Nat.reduceMul, Nat.reduceLeDiff, Nat.reduceLT, Nat.reduceBEq, Int.reduceLE, Int.reduceLT, Int.reduceNeg, Int.reduceAdd, Int.reduceSub, Int.reduceToNat, ↓reduceIte, reduceCtorEq, ↓ixShip, ↓ixCall, ↓ixLet, ↓ixRep]); try simp (maxSteps := 4000000) only [↓VP, VQ, ite_self, Nat.reduceEqDiff, Nat.reduceAdd, Nat.reduceSub, Nat.reduceMul, Nat.reduceLeDiff, Nat.reduceLT, Nat.reduceBEq, Int.reduceLE, Int.reduceLT, Int.reduceNeg, Int.reduceAdd, Int.reduceSub, Int.reduceToNat, ↓reduceIte, reduceCtorEq, ↓ixShip, ↓ixCall, ↓ixLet, ↓ixRep, eq_self, decide_true, decide_false, if_true, if_false, not_true_eq_false, List.append_eq])
    ((refine ACall.pure (c2) ?_; try simp (maxSteps := 4000000) only [↓VP, VQ, ite_self, Nat.reduceEqDiff, Nat.reduceAdd, Nat.reduceSub, Nat.reduceMul, Nat.reduceLeDiff, Nat.reduceLT, Nat.reduceBEq, Int.reduceLE, Int.reduceLT, Int.reduceNeg, Int.reduceAdd, Int.reduceSub, Int.reduceToNat, ↓reduceIte, reduceCtorEq, ↓ixShip, ↓ixCall, ↓ixLet, ↓ixRep]); try simp (maxSteps := 4000000) only [↓VP, VQ, ite_self, Nat.reduceEqDiff, Nat.reduceAdd, Nat.reduceSub, Nat.reduceMul, Nat.reduceLeDiff, Nat.reduceLT, Nat.reduceBEq, Int.reduceLE, Int.reduceLT, Int.reduceNeg, Int.reduceAdd, Int.reduceSub, Int.reduceToNat, ↓reduceIte, reduceCtorEq, ↓ixShip, ↓ixCall, ↓ixLet, ↓ixRep, eq_self, decide_true, decide_false, if_true, if_false, not_true_eq_false, List.append_eq])
    repeat' (first | intro _ | refine And.intro ?_ ?_)
    all_goals try (first | omega | (simp only [List.length_map, List.length_cons, List.length_nil, List.length_append, Nat.zero_add]; omega) | exact nnC _ | exact nlC (by decide) _ | exact nbC rfl)
    all_goals first
      | (((refine ACall.pure (aw) ?_; try simp (maxSteps := 4000000) only [↓VP, VQ, ite_self, Nat.reduceEqDiff, Nat.reduceAdd, Nat.reduceSub, Nat.reduceMul, Nat.reduceLeDiff, Nat.reduceLT, Nat.reduceBEq, Int.reduceLE, Int.reduceLT, Int.reduceNeg, Int.reduceAdd, Int.reduceSub, Int.reduceToNat, ↓reduceIte, reduceCtorEq, ↓ixShip, ↓ixCall, ↓ixLet, ↓ixRep]); try simp (maxSteps := 4000000) only [↓VP, VQ, ite_self, Nat.reduceEqDiff, Nat.reduceAdd, Nat.reduceSub, Nat.reduceMul, Nat.reduceLeDiff, Nat.reduceLT, Nat.reduceBEq, Int.reduceLE, Int.reduceLT, Int.reduceNeg, Int.reduceAdd, Int.reduceSub, Int.reduceToNat, ↓reduceIte, reduceCtorEq, ↓ixShip, ↓ixCall, ↓ixLet, ↓ixRep, eq_self, decide_true, decide_false, if_true, if_false, not_true_eq_false, List.append_eq]); done)
      | (exfalso; have := q4 (by assumption); omega)
      | skip
    all_goals
      obtain ⟨g1, g2⟩ := fy1 (by omega) (by omega)
      subst g2
      rw [g1] at y1 y2
      simp (maxSteps := 4000000) only [↓VP, VQ, ite_self, Nat.reduceEqDiff, Nat.reduceAdd, Nat.reduceSub, Nat.reduceMul, Nat.reduceLeDiff, Nat.reduceLT, Nat.reduceBEq, Int.reduceLE, Int.reduceLT, Int.reduceNeg, Int.reduceAdd, Int.reduceSub, Int.reduceToNat, ↓reduceIte, reduceCtorEq, ↓ixShip, ↓ixCall, ↓ixLet, ↓ixRep, mO]
      repeat' (first | intro _ | refine And.intro ?_ ?_)
      all_goals try (first | omega | (simp only [List.length_map, List.length_cons, List.length_nil, List.length_append, Nat.zero_add]; omega) | exact nnC _ | exact nlC (by decide) _ | exact nbC rfl)
      (refine ACall.pure (y1) ?_; try simp (maxSteps := 4000000) only [↓VP, VQ, ite_self, Nat.reduceEqDiff, Nat.reduceAdd, Nat.reduceSub, Nat.reduceMul, Nat.reduceLeDiff, Nat.reduceLT, Nat.reduceBEq, Int.reduceLE, Int.reduceLT, Int.reduceNeg, Int.reduceAdd, Int.reduceSub, Int.reduceToNat, ↓reduceIte, reduceCtorEq, ↓ixShip, ↓ixCall, ↓ixLet, ↓ixRep, eq_self, decide_true, decide_false, if_true, if_false, not_true_eq_false, List.append_eq, mO])
      ((refine ACall.pure (y2) ?_; try simp (maxSteps := 4000000) only [↓VP, VQ, ite_self, Nat.reduceEqDiff, Nat.reduceAdd, Nat.reduceSub, Nat.reduceMul, Nat.reduceLeDiff, Nat.reduceLT, Nat.reduceBEq, Int.reduceLE, Int.reduceLT, Int.reduceNeg, Int.reduceAdd, Int.reduceSub, Int.reduceToNat, ↓reduceIte, reduceCtorEq, ↓ixShip, ↓ixCall, ↓ixLet, ↓ixRep]); try simp (maxSteps := 4000000) only [↓VP, VQ, ite_self, Nat.reduceEqDiff, Nat.reduceAdd, Nat.reduceSub, Nat.reduceMul, Nat.reduceLeDiff, Nat.reduceLT, Nat.reduceBEq, Int.reduceLE, Int.reduceLT, Int.reduceNeg, Int.reduceAdd, Int.reduceSub, Int.reduceToNat, ↓reduceIte, reduceCtorEq, ↓ixShip, ↓ixCall, ↓ixLet, ↓ixRep, eq_self, decide_true, decide_false, if_true, if_false, not_true_eq_false, List.append_eq])
      ((refine ACall.pure (i4) ?_; try simp (maxSteps := 4000000) only [↓VP, VQ, ite_self, Nat.reduceEqDiff, Nat.reduceAdd, Nat.reduceSub, Nat.reduceMul, Nat.reduceLeDiff, Nat.reduceLT, Nat.reduceBEq, Int.reduceLE, Int.reduceLT, Int.reduceNeg, Int.reduceAdd, Int.reduceSub, Int.reduceToNat, ↓reduceIte, reduceCtorEq, ↓ixShip, ↓ixCall, ↓ixLet, ↓ixRep]); try simp (maxSteps := 4000000) only [↓VP, VQ, ite_self, Nat.reduceEqDiff, Nat.reduceAdd, Nat.reduceSub, Nat.reduceMul, Nat.reduceLeDiff, Nat.reduceLT, Nat.reduceBEq, Int.reduceLE, Int.reduceLT, Int.reduceNeg, Int.reduceAdd, Int.reduceSub, Int.reduceToNat, ↓reduceIte, reduceCtorEq, ↓ixShip, ↓ixCall, ↓ixLet, ↓ixRep, eq_self, decide_true, decide_false, if_true, if_false, not_true_eq_false, List.append_eq])
      ((refine ACall.pure (aw) ?_; try simp (maxSteps := 4000000) only [↓VP, VQ, ite_self, Nat.reduceEqDiff, Nat.reduceAdd, Nat.reduceSub, Nat.reduceMul, Nat.reduceLeDiff, Nat.reduceLT, Nat.reduceBEq, Int.reduceLE, Int.reduceLT, Int.reduceNeg, Int.reduceAdd, Int.reduceSub, Int.reduceToNat, ↓reduceIte, reduceCtorEq, ↓ixShip, ↓ixCall, ↓ixLet, ↓ixRep]); try simp (maxSteps := 4000000) only [↓VP, VQ, ite_self, Nat.reduceEqDiff, Nat.reduceAdd, Nat.reduceSub, Nat.reduceMul, Nat.reduceLeDiff, Nat.reduceLT, Nat.reduceBEq, Int.reduceLE, Int.reduceLT, Int.reduceNeg, Int.reduceAdd, Int.reduceSub, Int.reduceToNat, ↓reduceIte, reduceCtorEq, ↓ixShip, ↓ixCall, ↓ixLet, ↓ixRep, eq_self, decide_true, decide_false, if_true, if_false, not_true_eq_false, List.append_eq])

theorem shipMoved_c (h : RHarb) (hf : HFit h) (x y z w : Nat) (hx : x < 256) (hy : y < 256) (hz : z < 256) (hw : w < 256) : PCall Try.prog 14 [harbA h, .agg [.int .u8 x, .int .u8 y, .int .u8 z, .int .u8 w]] (.bool true) := by
  by_cases e : validB h = true
  · exact shipMoved_ok h hf x y z w hx hy hz hw e
  · exact shipMoved_bad h hf x y z w (by simpa using e)
end Go.Proofs.Ytnfmmhmfbipkjaa.Abs

namespace Go.Proofs.Ytnfmmhmfbipkjaa
set_option linter.unusedSimpArgs false
open Go Go.RowKit Go.Proofs Abs
set_option maxRecDepth 100000

theorem shipMoved_types : LawTypes Try.prog Try.f14 [26, 90] 4 7 := by
  refine ⟨by rw [Try.params14], by kernel_rfl, Try.underlying4, laid_ok, fun t h => ?_⟩
  simp only [List.mem_cons, List.not_mem_nil, or_false] at h
  rcases h with rfl | rfl
  · exact plain26
  · exact plain90

theorem shipMoved_all (xs : List AV) (h : GoodAll Try.prog [26, 90] xs) : ∃ K : AV → Mem → Prop, ACall Try.prog 14 xs (fun _ => .none) K ∧ ∀ r m, K r m → r = .bool true := by
  match xs, h with
  | [a0, a1], ⟨⟨l0, g0, h0⟩, ⟨l1, g1, h1⟩, _⟩ =>
    obtain ⟨h, hh, e0⟩ := open_harbour g0
    obtain ⟨x, y, z, w, hx, hy, hz, hw, e1⟩ := open_b4 g1
    rw [h0, e0, h1, e1]
    exact ⟨_, shipMoved_c h hh x y z w hx hy hz hw _, fun r m h => h.1⟩

theorem shipMoved_lifted (os : Os) (started : os.Started) (H : Type) (enc : TypeId × Value → H) :
    ReturnsInHanded {} Try.checked os 14 .any (Rows.shipMovedSpec.pre6 enc Try.prog Try.f14 Rows.shipMovedRow.domain false) (Rows.shipMovedSpec.post enc Try.prog Try.f14 false true false false) := by
  refine returnsInHanded_of_change_sized (C := Try.checked) own_ok started (by kernel_rfl) Try.func14
    (ChangeSpec.witness6 (enc := enc) (C := Try.checked) false ⟨#[], #[.agg #[.int .i64 0, .int .i64 0, .slice .none 0 0, .slice .none 0 0, .slice .none 0 0], .agg #[.int .u8 0, .int .u8 0, .int .u8 0, .int .u8 0]], []⟩ 8 (by kernel_rfl) (by kernel_rfl) (by kernel_rfl) (by kernel_rfl)) ?_
  intro W base args ds gs before hval hW _ hz _
  refine law_contract shipMoved_types rfl (fun ds hds => ?_) shipMoved_all W base args ds gs before hval hW hz
  match ds, hds with
  | [d0, d1], _ => rfl

theorem shipMoved_holds : Rows.ShipMovedSaid :=
  OpenClaim.holds_of_wide 14 Try.f14 rfl rfl rfl rfl rfl rfl rfl ⟨rfl, rfl, rfl, rfl, rfl⟩ rfl rfl rfl rfl rfl (by kernel_rfl) Try.func14 (by kernel_rfl)
    (of_decide_eq_true (by kernel_rfl)) (by unfold Func.isWrapper; first | (rw [if_pos (by decide +kernel)]; kernel_rfl) | (rw [if_neg (by decide +kernel)]; exact ⟨rfl, rfl⟩))
    (fun os started H enc _ => shipMoved_lifted os started H enc)
end Go.Proofs.Ytnfmmhmfbipkjaa
