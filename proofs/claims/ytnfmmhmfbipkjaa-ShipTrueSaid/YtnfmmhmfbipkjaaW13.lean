/- Lemmas for the statements of this seat (W13): they hold without conditions beyond those that each one states. -/
import Derived.Test.YtnfmmhmfbipkjaaW3
import Derived.Test.YtnfmmhmfbipkjaaW12
import Derived.Test.YtnfmmhmfbipkjaaW11
/- The abstract machine, part 29: variables of one's own that never change from a loop on. -/
namespace Go.Proofs.Ytnfmmhmfbipkjaa.Abs
set_option linter.unusedSimpArgs false
open Go Go.RowKit

section
variable {E : Env} {st : St} {n : Nat}

theorem ALoop.freeze (i : Nat) {body : Code} {K : Exit → St → Prop} (h : ALoop E n body K (st.freeze i) .mk) : ALoop E n body K st .mk := by
  refine ⟨fun hc r hr G w a hi ⟨β, R, hf⟩ hs => ?_⟩
  obtain ⟨G', R', x, i', f'⟩ := freeze_sound hi hf i
  refine wpIn_mono (h.does hc r hr G' w a i' ⟨β, R', f'⟩ hs) fun e a' w' q => ?_
  obtain ⟨G2, st2, x2, q⟩ := q
  exact ⟨G2, st2, x.toL.trans x2, q⟩
end
end Go.Proofs.Ytnfmmhmfbipkjaa.Abs

/- Contracts: valid and some (the laws of outright.go). -/
namespace Go.Proofs.Ytnfmmhmfbipkjaa.Abs
set_option linter.unusedSimpArgs false
set_option maxHeartbeats 4000000
set_option maxRecDepth 100000
open Go Go.RowKit Go.Proofs

def validB (h : RHarb) : Bool := decide ((checkH h).2.2 = 0)
def someB (h : RHarb) : Bool := validB h && okT h []

theorem valid_c (h : RHarb) (hs : hnamesFit h) : PCall Try.prog 36 [harbA h] (.bool (validB h)) := by
  intro m
  have a1 := refcheck_c h hs
  unfold validB
  generalize checkH h = C at *
  simp only [harbA, harbL] at *
  (refine acall_intro (E := envC (modeAt [] []) false []) (envCOk _ _ _) rfl Try.func36 rfl Try.call36 (by kernel_rfl) (by simp [Try.ntmps36]) ?_; simp only [Try.f36];  simp (maxSteps := 4000000) only [↓VP, VQ, ite_self, Nat.reduceEqDiff, Nat.reduceAdd, Nat.reduceSub, Nat.reduceMul, Nat.reduceLeDiff, Nat.reduceLT, Nat.reduceBEq, Int.reduceLE, Int.reduceLT, Int.reduceNeg, Int.reduceAdd, Int.reduceSub, Int.reduceToNat, ↓reduceIte, reduceCtorEq, ↓ixShip, ↓ixCall, ↓ixLet, ↓ixRep, Int.reduceEq])
  ((refine ACall.pure (a1) ?_; try simp (maxSteps := 4000000) only [↓VP, VQ, ite_self, Nat.reduceEqDiff, Nat.reduceAdd, Nat.reduceSub, Nat.reduceMul, Nat.reduceLeDiff, Nat.reduceLT, Nat.reduceBEq, Int.reduceLE, Int.reduceLT, Int.reduceNeg, Int.reduceAdd, Int.reduceSub, Int.reduceToNat, ↓reduceIte, reduceCtorEq, ↓ixShip, ↓ixCall, ↓ixLet, ↓ixRep]); try simp (maxSteps := 4000000) only [↓VP, VQ, ite_self, Nat.reduceEqDiff, Nat.reduceAdd, Nat.reduceSub, Nat.reduceMul, Nat.reduceLeDiff, Nat.reduceLT, Nat.reduceBEq, Int.reduceLE, Int.reduceLT, Int.reduceNeg, Int.reduceAdd, Int.reduceSub, Int.reduceToNat, ↓reduceIte, reduceCtorEq, ↓ixShip, ↓ixCall, ↓ixLet, ↓ixRep, eq_self, decide_true, decide_false, if_true, if_false, not_true_eq_false, List.append_eq])

theorem some_c (h : RHarb) (hs : hnamesFit h) : PCall Try.prog 46 [harbA h] (.bool (someB h)) := by
  intro m
  have a1 := valid_c h hs
  by_cases q : (checkH h).2.2 = 0
  · have hv : validB h = true := by unfold validB; exact decide_eq_true q
    have a2 := truths_c h (hok_check q) []
    unfold someB okT
    rw [hv] at a1 ⊢
    unfold trusA at a2
    generalize truthsR h [] = T at *
    simp only [harbA, harbL, ints, List.map_nil] at *
    (refine acall_intro (E := envC (modeAt [] []) false []) (envCOk _ _ _) rfl Try.func46 rfl Try.call46 (by kernel_rfl) (by simp [Try.ntmps46]) ?_; simp only [Try.f46];  simp (maxSteps := 4000000) only [↓VP, VQ, ite_self, Nat.reduceEqDiff, Nat.reduceAdd, Nat.reduceSub, Nat.reduceMul, Nat.reduceLeDiff, Nat.reduceLT, Nat.reduceBEq, Int.reduceLE, Int.reduceLT, Int.reduceNeg, Int.reduceAdd, Int.reduceSub, Int.reduceToNat, ↓reduceIte, reduceCtorEq, ↓ixShip, ↓ixCall, ↓ixLet, ↓ixRep, Int.reduceEq])
    ((refine ACall.pure (a1) ?_; try simp (maxSteps := 4000000) only [↓VP, VQ, ite_self, Nat.reduceEqDiff, Nat.reduceAdd, Nat.reduceSub, Nat.reduceMul, Nat.reduceLeDiff, Nat.reduceLT, Nat.reduceBEq, Int.reduceLE, Int.reduceLT, Int.reduceNeg, Int.reduceAdd, Int.reduceSub, Int.reduceToNat, ↓reduceIte, reduceCtorEq, ↓ixShip, ↓ixCall, ↓ixLet, ↓ixRep]); try simp (maxSteps := 4000000) only [↓VP, VQ, ite_self, Nat.reduceEqDiff, Nat.reduceAdd, Nat.reduceSub, Nat.reduceMul, Nat.reduceLeDiff, Nat.reduceLT, Nat.reduceBEq, Int.reduceLE, Int.reduceLT, Int.reduceNeg, Int.reduceAdd, Int.reduceSub, Int.reduceToNat, ↓reduceIte, reduceCtorEq, ↓ixShip, ↓ixCall, ↓ixLet, ↓ixRep, eq_self, decide_true, decide_false, if_true, if_false, not_true_eq_false, List.append_eq])
    ((refine ACall.pure (a2) ?_; try simp (maxSteps := 4000000) only [↓VP, VQ, ite_self, Nat.reduceEqDiff, Nat.reduceAdd, Nat.reduceSub, Nat.reduceMul, Nat.reduceLeDiff, Nat.reduceLT, Nat.reduceBEq, Int.reduceLE, Int.reduceLT, Int.reduceNeg, Int.reduceAdd, Int.reduceSub, Int.reduceToNat, ↓reduceIte, reduceCtorEq, ↓ixShip, ↓ixCall, ↓ixLet, ↓ixRep]); try simp (maxSteps := 4000000) only [↓VP, VQ, ite_self, Nat.reduceEqDiff, Nat.reduceAdd, Nat.reduceSub, Nat.reduceMul, Nat.reduceLeDiff, Nat.reduceLT, Nat.reduceBEq, Int.reduceLE, Int.reduceLT, Int.reduceNeg, Int.reduceAdd, Int.reduceSub, Int.reduceToNat, ↓reduceIte, reduceCtorEq, ↓ixShip, ↓ixCall, ↓ixLet, ↓ixRep, eq_self, decide_true, decide_false, if_true, if_false, not_true_eq_false, List.append_eq])
    intro _
    congr 1
    exact decide_eq_decide.2 (by omega)
  · have hv : validB h = false := by unfold validB; exact decide_eq_false q
    unfold someB
    rw [hv] at a1 ⊢
    simp only [harbA, harbL] at *
    (refine acall_intro (E := envC (modeAt [] []) false []) (envCOk _ _ _) rfl Try.func46 rfl Try.call46 (by kernel_rfl) (by simp [Try.ntmps46]) ?_; simp only [Try.f46];  simp (maxSteps := 4000000) only [↓VP, VQ, ite_self, Nat.reduceEqDiff, Nat.reduceAdd, Nat.reduceSub, Nat.reduceMul, Nat.reduceLeDiff, Nat.reduceLT, Nat.reduceBEq, Int.reduceLE, Int.reduceLT, Int.reduceNeg, Int.reduceAdd, Int.reduceSub, Int.reduceToNat, ↓reduceIte, reduceCtorEq, ↓ixShip, ↓ixCall, ↓ixLet, ↓ixRep, Int.reduceEq])
    ((refine ACall.pure (a1) ?_; try simp (maxSteps := 4000000) only [↓VP, VQ, ite_self, Nat.reduceEqDiff, Nat.reduceAdd, Nat.reduceSub, Nat.reduceMul, Nat.reduceLeDiff, Nat.reduceLT, Nat.reduceBEq, Int.reduceLE, Int.reduceLT, Int.reduceNeg, Int.reduceAdd, Int.reduceSub, Int.reduceToNat, ↓reduceIte, reduceCtorEq, ↓ixShip, ↓ixCall, ↓ixLet, ↓ixRep]); try simp (maxSteps := 4000000) only [↓VP, VQ, ite_self, Nat.reduceEqDiff, Nat.reduceAdd, Nat.reduceSub, Nat.reduceMul, Nat.reduceLeDiff, Nat.reduceLT, Nat.reduceBEq, Int.reduceLE, Int.reduceLT, Int.reduceNeg, Int.reduceAdd, Int.reduceSub, Int.reduceToNat, ↓reduceIte, reduceCtorEq, ↓ixShip, ↓ixCall, ↓ixLet, ↓ixRep, eq_self, decide_true, decide_false, if_true, if_false, not_true_eq_false, List.append_eq])
end Go.Proofs.Ytnfmmhmfbipkjaa.Abs

/- Laws: what Come answers in a harbour with a truth. -/
namespace Go.Proofs.Ytnfmmhmfbipkjaa.Abs
set_option linter.unusedSimpArgs false
open Go Go.RowKit Go.Proofs

theorem some_check {h : RHarb} (e : someB h = true) : (checkH h).2.2 = 0 := by
  unfold someB validB at e
  rw [Bool.and_eq_true, decide_eq_true_eq] at e
  exact e.1
theorem some_truths {h : RHarb} (e : someB h = true) : truthsR h [] ≠ [] := fun q => by
  unfold someB okT at e
  rw [Bool.and_eq_true, decide_eq_true_eq, q] at e
  exact absurd e.2 (by decide)
theorem some_known {h : RHarb} (e : someB h = true) : knownR h 0 = (truthsR h [], 0) := by
  unfold knownR
  rw [if_neg (by decide), if_neg (some_truths e)]
theorem known_some {h : RHarb} {c : Int} (hc : c = 0 → (checkH h).2.2 = 0) (e : (knownR h c).2 = 0) : someB h = true ∧ c = 0 := by
  unfold knownR at e
  split at e
  · rename_i q; exact absurd e q
  · rename_i q
    split at e
    · cases e
    · rename_i q2
      have q3 : c = 0 := by omega
      refine ⟨?_, q3⟩
      unfold someB validB okT
      rw [Bool.and_eq_true, decide_eq_true_eq, decide_eq_true_eq]
      exact ⟨hc q3, List.length_pos_iff.2 q2⟩

theorem index_in {c n b : Int} (hc : c = 0) (h : 0 ≤ n ∧ n ≤ b - 1) : indexE c n b = 0 := by
  unfold indexE
  rw [if_pos hc, if_neg (by rw [Bool.not_eq_true, offP_false]; exact h)]
theorem day_in {d e : Int} (he : e = 0) (h : 0 ≤ d ∧ d ≤ 60) : dayE d e = 0 := by
  unfold dayE
  rw [if_pos he, if_neg (by rw [Bool.not_eq_true, offP_false]; exact h)]
/-- The days at which a letter comes, in all truths, by all ships that take it. -/
def comesE (h : RHarb) (l : Nat) : List Int := (truthsR h []).flatMap (rowE h l)

theorem comeR_some {h : RHarb} (hs : someB h = true) {l : Nat} (hl : l < h.letters.length) {d : Int} (hd : 0 ≤ d ∧ d ≤ 60) :
    comeR h l d = (settledR (cnt (fun e => untilB e d) (comesE h l)) ((comesE h l).length : Int), 0) := by
  unfold comeR
  rw [day_in (index_in (some_check hs) ⟨by omega, by omega⟩) hd, some_known hs]
  obtain ⟨i1, i2⟩ := comeTo_is h (truthsR h []) l d _ (Nat.le_refl _)
  simp only [Int.toNat_natCast, if_true]
  rw [i1, i2, List.take_length]
  rfl
theorem truths_go {h : RHarb} {but : List Int} {t : RTru} (e : t ∈ truthsR h but) : trueB h but t.fleet = true := by
  unfold truthsR at e
  simp only [List.mem_map, List.mem_filter] at e
  obtain ⟨f, ⟨_, h2⟩, h3⟩ := e
  subst h3
  exact h2
theorem truths_at {h : RHarb} {but : List Int} {t : RTru} (e : t ∈ truthsR h but) {l : Nat} (hl : l < h.letters.length) : t.by_[l]! = couldL h t.fleet l but h.ships.length := by
  rw [truths_by e, byTo_at h _ _ hl]
theorem truths_could {h : RHarb} {but : List Int} {t : RTru} (e : t ∈ truthsR h but) {l : Nat} (hl : l < h.letters.length) : 0 < (couldL h t.fleet l but h.ships.length).length := by
  have := truths_go e
  unfold trueB goB at this
  rw [Bool.and_eq_true, List.all_eq_true] at this
  exact of_decide_eq_true (this.2 l (List.mem_range.2 hl))

theorem comesE_pos {h : RHarb} (hs : someB h = true) {l : Nat} (hl : l < h.letters.length) : 0 < (comesE h l).length := by
  obtain ⟨t, ht⟩ := List.exists_mem_of_ne_nil _ (some_truths hs)
  have h1 : 0 < (rowE h l t).length := by
    unfold rowE
    rw [List.length_map, truths_at ht hl]
    exact truths_could ht hl
  obtain ⟨e, he⟩ := List.exists_mem_of_ne_nil _ (List.length_pos_iff.1 h1)
  exact List.length_pos_of_mem (List.mem_flatMap.2 ⟨t, ht, he⟩)

theorem atC_in {l : List RCall} {p : Int} (e : 0 ≤ atC l p) : (atC l p).toNat < l.length := by
  unfold atC at *
  rcases idxL_cases (fun c : RCall => decide (c.port = p)) l with q | ⟨k, hk, q⟩
  · omega
  · omega

end Go.Proofs.Ytnfmmhmfbipkjaa.Abs

/- Contracts: the statement ShipLater. -/
namespace Go.Proofs.Ytnfmmhmfbipkjaa.Abs
set_option linter.unusedSimpArgs false
set_option maxHeartbeats 4000000
set_option maxRecDepth 100000
open Go Go.RowKit Go.Proofs

theorem natMod (a b : Nat) : ((a : Int) % (b : Int)) = ((a % b : Nat) : Int) := (Int.natCast_emod a b).symm
theorem natMod61 (a : Nat) : ((a : Int) % 61) = ((a % 61 : Nat) : Int) := (Int.natCast_emod a 61).symm

end Go.Proofs.Ytnfmmhmfbipkjaa.Abs

/- Laws: what Before answers in a harbour with a truth. -/
namespace Go.Proofs.Ytnfmmhmfbipkjaa.Abs
set_option linter.unusedSimpArgs false
open Go Go.RowKit Go.Proofs

end Go.Proofs.Ytnfmmhmfbipkjaa.Abs

/- Laws: what Send answers in a harbour with a truth. -/
namespace Go.Proofs.Ytnfmmhmfbipkjaa.Abs
set_option linter.unusedSimpArgs false
open Go Go.RowKit Go.Proofs

theorem callsR_some {h : RHarb} (hs : someB h = true) {s : Nat} (hl : s < h.ships.length) {port : Int} (hp : 0 ≤ port ∧ port ≤ h.ports - 1) :
    callsR h s port = ((calledTo h (truthsR h []) s port (truthsR h []).length).1, settledR (calledTo h (truthsR h []) s port (truthsR h []).length).2 ((truthsR h []).length : Int), 0) := by
  have e : (callsR h s port).2.2 = 0 := by
    unfold callsR
    simp only
    rw [index_in (some_check hs) ⟨by omega, by omega⟩, index_in (some_check hs) hp, if_pos rfl, some_known hs, if_pos rfl]
  rw [callsR_good e, Int.toNat_natCast]
theorem settled_must {a b : Int} : settledR a b = 1 ↔ a = b := by
  unfold settledR
  constructor
  · intro q
    split at q
    · assumption
    · split at q <;> cases q
  · intro q; rw [if_pos q]

end Go.Proofs.Ytnfmmhmfbipkjaa.Abs

/- Contracts: within. (subset: P6.) -/
namespace Go.Proofs.Ytnfmmhmfbipkjaa.Abs
set_option linter.unusedSimpArgs false
set_option maxHeartbeats 4000000
set_option maxRecDepth 100000
open Go Go.RowKit Go.Proofs

def withinB (a b : Int × Int) (how : Int) : Bool := decide (how = 2) || (decide (b.1 ≤ a.1) && decide (a.2 ≤ b.2))
theorem within_c (a b : Int × Int) (how : Int) : PCall Try.prog 48 [.agg [.int .i64 a.1, .int .i64 a.2], .agg [.int .i64 b.1, .int .i64 b.2], .int .i64 how] (.bool (withinB a b how)) := by
  intro m
  have e : withinB a b how = (decide (how = 2) || (decide (b.1 ≤ a.1) && decide (a.2 ≤ b.2))) := rfl
  (refine acall_intro (E := envC (modeAt [] []) false []) (envCOk _ _ _) rfl Try.func48 rfl Try.call48 (by kernel_rfl) (by simp [Try.ntmps48]) ?_; simp only [Try.f48];  simp (maxSteps := 4000000) only [↓VP, VQ, ite_self, Nat.reduceEqDiff, Nat.reduceAdd, Nat.reduceSub, Nat.reduceMul, Nat.reduceLeDiff, Nat.reduceLT, Nat.reduceBEq, Int.reduceLE, Int.reduceLT, Int.reduceNeg, Int.reduceAdd, Int.reduceSub, Int.reduceToNat, ↓reduceIte, reduceCtorEq, ↓ixShip, ↓ixCall, ↓ixLet, ↓ixRep, Int.reduceEq])
  repeat' (first | intro _ | refine And.intro ?_ ?_)
  all_goals first
    | (rw [e]; congr 1; simp [*]; done)
    | (rw [e, show how = 2 by omega]; rfl)
end Go.Proofs.Ytnfmmhmfbipkjaa.Abs

/- Laws: with fewer Lost, and with none; what Sunk answers in a harbour with a truth. -/
namespace Go.Proofs.Ytnfmmhmfbipkjaa.Abs
set_option linter.unusedSimpArgs false
open Go Go.RowKit Go.Proofs

theorem sunkR_some {h : RHarb} (hs : someB h = true) : sunkR h = (sureTo h (truthsR h []) h.ships.length, mayTo h (truthsR h []) h.ships.length, 0) := by
  unfold sunkR
  rw [some_check hs, some_known hs, if_pos rfl]
theorem sunkR_some_of {h : RHarb} (e : (sunkR h).2.2 = 0) : someB h = true := by
  unfold sunkR at e
  split at e
  · rename_i q; exact (known_some (fun q => q) q).1
  · rename_i q; exact absurd e q

theorem mem_may {h : RHarb} {T : List RTru} {x : Int} : x ∈ mayTo h T h.ships.length ↔ ∃ s : Nat, x = s ∧ s < h.ships.length ∧ ∃ t ∈ T, (s : Int) ∈ lostL h t.fleet t.fleet.length := by
  unfold mayTo
  simp only [List.mem_map, List.mem_filter, List.mem_range, decide_eq_true_eq]
  constructor
  · rintro ⟨s, ⟨h1, h2⟩, rfl⟩
    obtain ⟨i, hi, q⟩ := (sinkN_is h T s _).2.1 h2
    rw [getD_any hi] at q
    exact ⟨s, rfl, h1, _, List.getElem_mem hi, q⟩
  · rintro ⟨s, rfl, h1, t, ht, q⟩
    obtain ⟨i, hi, rfl⟩ := List.mem_iff_getElem.1 ht
    exact ⟨s, ⟨h1, (sinkN_is h T s _).2.2 ⟨i, hi, by rw [getD_any hi]; exact q⟩⟩, rfl⟩
theorem mem_sure {h : RHarb} {T : List RTru} {x : Int} : x ∈ sureTo h T h.ships.length ↔ ∃ s : Nat, x = s ∧ s < h.ships.length ∧ ∀ t ∈ T, (s : Int) ∈ lostL h t.fleet t.fleet.length := by
  unfold sureTo
  simp only [List.mem_map, List.mem_filter, List.mem_range, decide_eq_true_eq]
  constructor
  · rintro ⟨s, ⟨h1, h2⟩, rfl⟩
    refine ⟨s, rfl, h1, fun t ht => ?_⟩
    obtain ⟨i, hi, rfl⟩ := List.mem_iff_getElem.1 ht
    have := (sinkN_is h T s _).1.1 h2 i hi
    rwa [getD_any hi] at this
  · rintro ⟨s, rfl, h1, q⟩
    exact ⟨s, ⟨h1, (sinkN_is h T s _).1.2 fun i hi => by rw [getD_any hi]; exact q _ (List.getElem_mem hi)⟩, rfl⟩

end Go.Proofs.Ytnfmmhmfbipkjaa.Abs

/- Laws: harbours without some reports (for ShipFewest). -/
namespace Go.Proofs.Ytnfmmhmfbipkjaa.Abs
set_option linter.unusedSimpArgs false
open Go Go.RowKit Go.Proofs

theorem range_all {α : Type} [Inhabited α] (l : List α) (P : α → Bool) : ((List.range l.length).all fun i => P (l[i]!)) = l.all P := by
  rw [Bool.eq_iff_iff, List.all_eq_true, List.all_eq_true]
  constructor
  · intro h x hx
    obtain ⟨i, hi, rfl⟩ := List.mem_iff_getElem.1 hx
    rw [← getD_any hi]
    exact h i (List.mem_range.2 hi)
  · intro h i hi
    have hi := List.mem_range.1 hi
    rw [getD_any hi]
    exact h _ (List.getElem_mem hi)

theorem but_all (h : RHarb) (but : List Int) (P : RRep → Bool) : ((List.range (butTo h but h.reports.length).length).all fun i => P ((butTo h but h.reports.length)[i]!)) = (List.range h.reports.length).all fun i => decide ((i : Int) ∈ but) || P (h.reports[i]!) := by
  rw [range_all]
  unfold butTo
  rw [List.all_map, List.all_filter]
  refine congrArg (fun f => (List.range h.reports.length).all f) ?_
  funext i
  simp only [Function.comp]
  by_cases q : (i : Int) ∈ but <;> simp [q]

theorem said_but (h : RHarb) (but : List Int) (l : List Fate) : saidB (butH h but) l [] (butH h but).reports.length = saidB h l but h.reports.length := by
  have e1 := but_all h but fun r => !decide (r.kind < 2) || soB r (dayR h l r.of_.toNat r.port)
  have e2 : saidB (butH h but) l [] (butH h but).reports.length = (List.range (butTo h but h.reports.length).length).all fun i => !decide (((butTo h but h.reports.length)[i]!).kind < 2) || soB ((butTo h but h.reports.length)[i]!) (dayR h l ((butTo h but h.reports.length)[i]!).of_.toNat ((butTo h but h.reports.length)[i]!).port) := by
    unfold saidB
    refine congrArg (fun f => (List.range (butTo h but h.reports.length).length).all f) ?_
    funext i
    have : ofS (butH h but) [] i = decide (((butTo h but h.reports.length)[i]!).kind < 2) := by
      unfold ofS
      rw [decide_eq_true (by simp : (i : Int) ∉ ([] : List Int)), Bool.and_true]
      rfl
    rw [this]
    rfl
  rw [e2, e1]
  unfold saidB
  refine congrArg (fun f => (List.range h.reports.length).all f) ?_
  funext i
  unfold ofS
  by_cases q : (i : Int) ∈ but <;> simp [q]

theorem reps_but (h : RHarb) (but : List Int) (l : List Fate) (k s : Nat) : repsB (butH h but) l k [] s (butH h but).reports.length = repsB h l k but s h.reports.length := by
  have e1 := but_all h but fun r => !(decide (2 ≤ r.kind) && decide (r.of_ = (k : Int))) || soB r (dayR h l s (h.letters[k]!).port)
  have e2 : repsB (butH h but) l k [] s (butH h but).reports.length = (List.range (butTo h but h.reports.length).length).all fun i => !(decide (2 ≤ ((butTo h but h.reports.length)[i]!).kind) && decide (((butTo h but h.reports.length)[i]!).of_ = (k : Int))) || soB ((butTo h but h.reports.length)[i]!) (dayR h l s (h.letters[k]!).port) := by
    unfold repsB
    refine congrArg (fun f => (List.range (butTo h but h.reports.length).length).all f) ?_
    funext i
    have : ofB (butH h but) k [] i = (decide (2 ≤ ((butTo h but h.reports.length)[i]!).kind) && decide (((butTo h but h.reports.length)[i]!).of_ = (k : Int))) := by
      unfold ofB
      rw [decide_eq_true (by simp : (i : Int) ∉ ([] : List Int)), Bool.and_true]
      rfl
    rw [this]
    rfl
  rw [e2, e1]
  unfold repsB
  refine congrArg (fun f => (List.range h.reports.length).all f) ?_
  funext i
  unfold ofB
  by_cases q : (i : Int) ∈ but <;> simp [q]

theorem can_but (h : RHarb) (but : List Int) (l : List Fate) (k s : Nat) : canB (butH h but) l k [] s = canB h l k but s := by
  unfold canB
  rw [reps_but]
  rfl

theorem could_but (h : RHarb) (but : List Int) (l : List Fate) (k n : Nat) : couldL (butH h but) l k [] n = couldL h l k but n := by
  unfold couldL
  rw [show canB (butH h but) l k [] = canB h l k but from funext fun s => can_but h but l k s]

theorem true_but (h : RHarb) (but : List Int) : trueB (butH h but) [] = trueB h but := by
  funext l
  unfold trueB goB
  rw [said_but]
  refine congrArg (fun b => saidB h l but h.reports.length && b) ?_
  show ((List.range h.letters.length).all fun k => decide (0 < (couldL (butH h but) l k [] h.ships.length).length)) = _
  refine congrArg (fun f => (List.range h.letters.length).all f) ?_
  funext k
  rw [could_but]

/-- The truths without some reports. -/
theorem truths_but (h : RHarb) (but : List Int) : truthsR (butH h but) [] = truthsR h but := by
  unfold truthsR
  rw [true_but]
  refine congrArg (fun f => ((fleetsR h.ships h.lost).filter (trueB h but)).map f) ?_
  funext l
  unfold truOf byTo
  show (⟨l, (List.range h.letters.length).map fun k => couldL (butH h but) l k [] h.ships.length⟩ : RTru) = _
  congr 2
  funext k
  rw [could_but]

theorem checkH_of {h : RHarb} (e : (offP 1 4 h.ports || offP 0 3 h.lost) = false ∧ h.ships.length ≤ 3 ∧ (shipsE h).2 = 0 ∧ h.letters.length ≤ 4 ∧ (lettersE h).2 = 0 ∧ h.reports.length ≤ 5 ∧ (reportsE h).2 = 0) : (checkH h).2.2 = 0 := by
  obtain ⟨e1, e2, e3, e4, e5, e6, e7⟩ := e
  unfold checkH
  rw [if_neg (by rw [e1]; decide), if_neg (by omega), if_neg (by omega), if_neg (by omega), if_neg (by omega), if_neg (by omega), if_neg (by omega)]

theorem reportsE_zero {h : RHarb} : (reportsE h).2 = 0 ↔ ∀ x ∈ h.reports, repErr h.ports h.ships.length h.letters.length x = 0 := by
  unfold reportsE
  rw [failFrom_zero]
  constructor
  · intro q x hx
    obtain ⟨i, hi, rfl⟩ := List.mem_iff_getElem.1 hx
    exact q i hi
  · intro q i hi
    exact q _ (List.getElem_mem hi)

theorem but_mem {h : RHarb} {but : List Int} {x : RRep} (e : x ∈ butTo h but h.reports.length) : x ∈ h.reports := by
  unfold butTo at e
  simp only [List.mem_map, List.mem_filter, List.mem_range] at e
  obtain ⟨i, ⟨h1, _⟩, rfl⟩ := e
  rw [getD_any h1]; exact List.getElem_mem h1

theorem check_but {h : RHarb} (e : (checkH h).2.2 = 0) (but : List Int) : (checkH (butH h but)).2.2 = 0 := by
  obtain ⟨e1, e2, e3, e4, e5, e6, e7⟩ := checkH_parts e
  refine checkH_of ⟨e1, e2, e3, e4, e5, ?_, ?_⟩
  · exact Nat.le_trans (butTo_length h but _) e6
  · rw [reportsE_zero] at e7 ⊢
    exact fun x hx => e7 x (but_mem hx)

theorem sunk_but {h : RHarb} (e : (checkH h).2.2 = 0) (but : List Int) : (sunkR (butH h but)).2.2 = if okT h but = true then 0 else 8 := by
  have e1 := check_but e but
  have e2 : okT h but = okT (butH h but) [] := by unfold okT; rw [truths_but]
  by_cases q : okT h but = true
  · rw [if_pos q, sunkR_some]
    unfold someB validB
    rw [← e2, q, decide_eq_true e1]; rfl
  · rw [if_neg q]
    have q3 : truthsR (butH h but) [] = [] := by
      rw [e2] at q
      unfold okT at q
      rw [decide_eq_true_eq] at q
      exact List.eq_nil_of_length_eq_zero (by omega)
    have hk : knownR (butH h but) 0 = ([], 8) := by unfold knownR; rw [if_neg (by decide), if_pos q3]
    unfold sunkR
    rw [e1, hk]
    rfl

/-! ### Choices by their order -/
def fewOk (n : Nat) : Bool := ((List.range (2 ^ n)).all fun s => risingL n (-1) (listTo s n)) &&
  ((List.range (2 ^ n)).all fun s => (List.range (2 ^ n)).all fun t => fewerL (listTo s n) (listTo t n) == decide ((allChoices n).idxOf (listTo s n) < (allChoices n).idxOf (listTo t n)))

theorem few_ok0 : fewOk 0 = true := by decide +kernel
theorem few_ok1 : fewOk 1 = true := by decide +kernel
theorem few_ok2 : fewOk 2 = true := by decide +kernel
theorem few_ok3 : fewOk 3 = true := by decide +kernel
theorem few_ok4 : fewOk 4 = true := by decide +kernel
theorem few_ok5 : fewOk 5 = true := by decide +kernel

theorem few_ok {n : Nat} (hn : n < 6) : fewOk n = true := by
  have : n = 0 ∨ n = 1 ∨ n = 2 ∨ n = 3 ∨ n = 4 ∨ n = 5 := by omega
  rcases this with rfl | rfl | rfl | rfl | rfl | rfl
  · exact few_ok0
  · exact few_ok1
  · exact few_ok2
  · exact few_ok3
  · exact few_ok4
  · exact few_ok5

theorem few_rank {n : Nat} (hn : n < 6) {s t : Nat} (hs : s < 2 ^ n) (ht : t < 2 ^ n) : risingL n (-1) (listTo s n) = true ∧ fewerL (listTo s n) (listTo t n) = decide ((allChoices n).idxOf (listTo s n) < (allChoices n).idxOf (listTo t n)) := by
  have h := few_ok hn
  unfold fewOk at h
  simp only [Bool.and_eq_true, List.all_eq_true, List.mem_range, beq_iff_eq] at h
  exact ⟨h.1 s hs, h.2 s hs t ht⟩

theorem listTo_mod (s n : Nat) : listTo (s % 2 ^ n) n = listTo s n := by
  unfold listTo
  refine congrArg (List.map _) (List.filter_congr fun i hi => ?_)
  rw [Nat.testBit_mod_two_pow, decide_eq_true (List.mem_range.1 hi), Bool.true_and]

/-- What ShipFewest says. -/
theorem wrong_law {h : RHarb} (e : (checkH h).2.2 = 0) (s : Nat) :
    (wrongR h = ([], 9) ∧ okT h (listTo s h.reports.length) = false) ∨
    ∃ l, wrongR h = (l, 0) ∧ risingL h.reports.length (-1) l = true ∧ okT h l = true ∧ (okT h (listTo s h.reports.length) = true → fewerL (listTo s h.reports.length) l = false) := by
  have hh := hok_check e
  have hr : h.reports.length < 6 := by have := hh.nr; omega
  have hb := best_is h hr _ (Nat.le_refl _)
  have hm : s % 2 ^ h.reports.length < 2 ^ h.reports.length := Nat.mod_lt _ (Nat.pow_pos (by decide))
  have ha : ∀ s, anyT h s = okT h (listTo s h.reports.length) := fun s => any_truth hh s
  rw [← listTo_mod]
  generalize s % 2 ^ h.reports.length = s at *
  unfold wrongR
  rw [if_pos e, ← wrong_same hh]
  cases hB : bestTo h (2 ^ h.reports.length) with
  | none =>
    rw [hB] at hb
    exact .inl ⟨rfl, by rw [← ha]; exact hb s hm⟩
  | some b =>
    rw [hB] at hb
    obtain ⟨t, ht, rfl, ho, hmin⟩ := hb
    refine .inr ⟨_, rfl, (few_rank hr ht ht).1, by rw [← ha]; exact ho, fun q => ?_⟩
    rw [(few_rank hr hm ht).2]
    have := hmin s hm (by rw [ha]; exact q)
    exact decide_eq_false (by omega)
end Go.Proofs.Ytnfmmhmfbipkjaa.Abs

/- Laws: a harbour with one more report (for ShipMore). -/
namespace Go.Proofs.Ytnfmmhmfbipkjaa.Abs
set_option linter.unusedSimpArgs false
open Go Go.RowKit Go.Proofs

def moreH (h : RHarb) (r : RRep) : RHarb := { h with reports := h.reports ++ [r] }

theorem said_list (h : RHarb) (l : List Fate) : saidB h l [] h.reports.length = h.reports.all fun r => !decide (r.kind < 2) || soB r (dayR h l r.of_.toNat r.port) := by
  rw [← range_all]
  unfold saidB
  refine congrArg (fun f => (List.range h.reports.length).all f) ?_
  funext i
  unfold ofS
  rw [decide_eq_true (by simp : (i : Int) ∉ ([] : List Int)), Bool.and_true]
theorem reps_list (h : RHarb) (l : List Fate) (k s : Nat) : repsB h l k [] s h.reports.length = h.reports.all fun r => !(decide (2 ≤ r.kind) && decide (r.of_ = (k : Int))) || soB r (dayR h l s (h.letters[k]!).port) := by
  rw [← range_all]
  unfold repsB
  refine congrArg (fun f => (List.range h.reports.length).all f) ?_
  funext i
  unfold ofB
  rw [decide_eq_true (by simp : (i : Int) ∉ ([] : List Int)), Bool.and_true]

theorem said_more {h : RHarb} {r : RRep} {l : List Fate} (e : saidB (moreH h r) l [] (moreH h r).reports.length = true) : saidB h l [] h.reports.length = true := by
  rw [said_list] at e ⊢
  have e : (h.reports ++ [r]).all (fun r => !decide (r.kind < 2) || soB r (dayR h l r.of_.toNat r.port)) = true := e
  rw [List.all_append, Bool.and_eq_true] at e
  exact e.1
theorem can_more {h : RHarb} {r : RRep} {l : List Fate} {k s : Nat} (e : canB (moreH h r) l k [] s = true) : canB h l k [] s = true := by
  unfold canB at e ⊢
  rw [reps_list] at e ⊢
  have e : (shipB h k s && (h.reports ++ [r]).all fun r => !(decide (2 ≤ r.kind) && decide (r.of_ = (k : Int))) || soB r (dayR h l s (h.letters[k]!).port)) = true := e
  rw [List.all_append, Bool.and_eq_true, Bool.and_eq_true] at e
  rw [Bool.and_eq_true]
  exact ⟨e.1, e.2.1⟩
theorem mem_could {h : RHarb} {l : List Fate} {k : Nat} {but : List Int} {n : Nat} {x : Int} : x ∈ couldL h l k but n ↔ ∃ s : Nat, x = s ∧ s < n ∧ canB h l k but s = true := by
  unfold couldL
  simp only [List.mem_map, List.mem_filter, List.mem_range]
  constructor
  · rintro ⟨s, ⟨h1, h2⟩, rfl⟩; exact ⟨s, rfl, h1, h2⟩
  · rintro ⟨s, rfl, h1, h2⟩; exact ⟨s, ⟨h1, h2⟩, rfl⟩
theorem could_more {h : RHarb} {r : RRep} {l : List Fate} {k n : Nat} {x : Int} (e : x ∈ couldL (moreH h r) l k [] n) : x ∈ couldL h l k [] n := by
  obtain ⟨s, h1, h2, h3⟩ := mem_could.1 e
  exact mem_could.2 ⟨s, h1, h2, can_more h3⟩

theorem mem_truths {h : RHarb} {but : List Int} {t : RTru} : t ∈ truthsR h but ↔ t.fleet ∈ fleetsR h.ships h.lost ∧ trueB h but t.fleet = true ∧ t = truOf h but t.fleet := by
  unfold truthsR
  simp only [List.mem_map, List.mem_filter]
  constructor
  · rintro ⟨f, ⟨h1, h2⟩, rfl⟩; exact ⟨h1, h2, rfl⟩
  · rintro ⟨h1, h2, h3⟩; exact ⟨t.fleet, ⟨h1, h2⟩, h3.symm⟩
theorem truOf_mem {h : RHarb} {but : List Int} {f : List Fate} (h1 : f ∈ fleetsR h.ships h.lost) (h2 : trueB h but f = true) : truOf h but f ∈ truthsR h but := mem_truths.2 ⟨h1, h2, rfl⟩

theorem true_more {h : RHarb} {r : RRep} {l : List Fate} (e : trueB (moreH h r) [] l = true) : trueB h [] l = true := by
  unfold trueB goB at e ⊢
  rw [Bool.and_eq_true] at e ⊢
  refine ⟨said_more e.1, ?_⟩
  rw [List.all_eq_true]
  intro k hk
  have := List.all_eq_true.1 e.2 k hk
  have := of_decide_eq_true this
  obtain ⟨x, hx⟩ := List.exists_mem_of_ne_nil _ (List.length_pos_iff.1 this)
  exact decide_eq_true (List.length_pos_of_mem (could_more hx))

/-- Each truth with one more report is one without it; letters go by no ship more. -/
theorem truth_more {h : RHarb} {r : RRep} {t : RTru} (e : t ∈ truthsR (moreH h r) []) : ∃ t' ∈ truthsR h [], t'.fleet = t.fleet ∧ ∀ k, k < h.letters.length → ∀ x ∈ t.by_[k]!, x ∈ t'.by_[k]! := by
  obtain ⟨h1, h2, h3⟩ := mem_truths.1 e
  have hm := truOf_mem (h := h) (but := []) (f := t.fleet) h1 (true_more h2)
  refine ⟨_, hm, rfl, fun k hk x hx => ?_⟩
  have hk' : k < (moreH h r).letters.length := hk
  rw [truths_at e hk'] at hx
  rw [truths_at hm hk]
  exact could_more hx

theorem sunk_more {h : RHarb} {r : RRep} (e : someB h = true) (e' : someB (moreH h r) = true) :
    (sunkR h).2.2 = 0 ∧ (sunkR (moreH h r)).2.2 = 0 ∧ ((sunkR h).1.all fun x => decide (x ∈ (sunkR (moreH h r)).1)) = true ∧ ((sunkR (moreH h r)).2.1.all fun x => decide (x ∈ (sunkR h).2.1)) = true := by
  rw [sunkR_some e, sunkR_some e']
  refine ⟨rfl, rfl, ?_, ?_⟩ <;> rw [List.all_eq_true] <;> intro x hx <;> refine decide_eq_true ?_
  · obtain ⟨s, h1, h2, h3⟩ := mem_sure.1 hx
    refine mem_sure.2 ⟨s, h1, h2, fun t ht => ?_⟩
    obtain ⟨t', m1, m2, _⟩ := truth_more ht
    have := h3 t' m1
    rw [m2] at this
    exact this
  · obtain ⟨s, h1, h2, t, ht, h3⟩ := mem_may.1 hx
    obtain ⟨t', m1, m2, _⟩ := truth_more ht
    refine mem_may.2 ⟨s, h1, h2, t', m1, ?_⟩
    rw [m2]
    exact h3

theorem settled_never {a b : Int} (hb : 0 < b) : settledR a b = 2 ↔ a = 0 := by
  unfold settledR; split
  · omega
  · split <;> omega

theorem called_mem {h : RHarb} {s : Nat} {port : Int} (T : List RTru) : let c := calledTo h T s port T.length
    (c.2 = (T.length : Int) ↔ ∀ t ∈ T, 0 ≤ dayR h t.fleet s port) ∧ (c.2 = 0 ↔ ∀ t ∈ T, dayR h t.fleet s port < 0) ∧ (c.2 = 0 → c.1 = (0, 0)) ∧
    (c.2 ≠ 0 → (∀ t ∈ T, 0 ≤ dayR h t.fleet s port → c.1.1 ≤ dayR h t.fleet s port ∧ dayR h t.fleet s port ≤ c.1.2) ∧
      (∃ t ∈ T, 0 ≤ dayR h t.fleet s port ∧ c.1.1 = dayR h t.fleet s port) ∧ (∃ t ∈ T, 0 ≤ dayR h t.fleet s port ∧ c.1.2 = dayR h t.fleet s port)) := by
  have hc := called_is h T s port T.length (Nat.le_refl _)
  have hall : ∀ P : RTru → Prop, (∀ i, i < T.length → P (T[i]!)) ↔ ∀ t ∈ T, P t := fun P => by
    constructor
    · intro q t ht
      obtain ⟨i, hi, rfl⟩ := List.mem_iff_getElem.1 ht
      rw [← getD_any hi]; exact q i hi
    · intro q i hi
      rw [getD_any hi]; exact q _ (List.getElem_mem hi)
  have hex : ∀ P : RTru → Prop, (∃ i, i < T.length ∧ P (T[i]!)) → ∃ t ∈ T, P t := fun P => by
    rintro ⟨i, hi, q⟩
    rw [getD_any hi] at q
    exact ⟨_, List.getElem_mem hi, q⟩
  simp only at hc ⊢
  obtain ⟨h1, h2, h3, h4⟩ := hc
  refine ⟨h1.trans (hall fun t => 0 ≤ dayR h t.fleet s port), h2.trans (hall fun t => dayR h t.fleet s port < 0), h3, fun q => ?_⟩
  obtain ⟨g1, g2, g3⟩ := h4 q
  exact ⟨(hall fun t => 0 ≤ dayR h t.fleet s port → (calledTo h T s port T.length).1.1 ≤ dayR h t.fleet s port ∧ dayR h t.fleet s port ≤ (calledTo h T s port T.length).1.2).1 g1,
    hex (fun t => 0 ≤ dayR h t.fleet s port ∧ (calledTo h T s port T.length).1.1 = dayR h t.fleet s port) g2, hex (fun t => 0 ≤ dayR h t.fleet s port ∧ (calledTo h T s port T.length).1.2 = dayR h t.fleet s port) g3⟩

theorem some_pos {h : RHarb} (e : someB h = true) : 0 < ((truthsR h []).length : Int) := by
  have := List.length_pos_iff.2 (some_truths e); omega

theorem calls_more {h : RHarb} {r : RRep} (e : someB h = true) (e' : someB (moreH h r) = true) {s : Nat} (hs : s < h.ships.length) {port : Int} (hp : 0 ≤ port ∧ port ≤ h.ports - 1) :
    (callsR h s port).2.2 = 0 ∧ (callsR (moreH h r) s port).2.2 = 0 ∧ withinB (callsR (moreH h r) s port).1 (callsR h s port).1 (callsR (moreH h r) s port).2.1 = true ∧ ((callsR h s port).2.1 ≠ 0 → (callsR h s port).2.1 = (callsR (moreH h r) s port).2.1) := by
  have hs' : s < (moreH h r).ships.length := hs
  have hp' : 0 ≤ port ∧ port ≤ (moreH h r).ports - 1 := hp
  rw [callsR_some e hs hp, callsR_some e' hs' hp']
  refine ⟨rfl, rfl, ?_⟩
  have a1 := called_mem (h := h) (s := s) (port := port) (truthsR h [])
  have a2 := called_mem (h := moreH h r) (s := s) (port := port) (truthsR (moreH h r) [])
  have p1 := some_pos e
  have p2 := some_pos e'
  have hd : ∀ l, dayR (moreH h r) l s port = dayR h l s port := fun l => rfl
  simp only [hd] at a1 a2
  have hsub : ∀ t ∈ truthsR (moreH h r) [], ∃ t' ∈ truthsR h [], t'.fleet = t.fleet := fun t ht => by
    obtain ⟨t', q1, q2, _⟩ := truth_more ht; exact ⟨t', q1, q2⟩
  obtain ⟨t0, ht0⟩ := List.exists_mem_of_ne_nil _ (some_truths e')
  generalize hT : truthsR h [] = T at *
  generalize hT' : truthsR (moreH h r) [] = T' at *
  generalize calledTo h T s port T.length = C at *
  generalize calledTo (moreH h r) T' s port T'.length = C' at *
  obtain ⟨h1, h2, h3, h4⟩ := a1
  obtain ⟨g1, g2, g3, g4⟩ := a2
  dsimp only
  constructor
  · unfold withinB
    rw [Bool.or_eq_true, Bool.and_eq_true, decide_eq_true_eq, decide_eq_true_eq, decide_eq_true_eq, settled_never p2]
    by_cases q : C'.2 = 0
    · exact .inl q
    · right
      obtain ⟨_, ⟨t1, m1, n1, o1⟩, t2, m2, n2, o2⟩ := g4 q
      obtain ⟨t1', k1, k2⟩ := hsub t1 m1
      obtain ⟨t2', k3, k4⟩ := hsub t2 m2
      have hne : C.2 ≠ 0 := fun w => by
        have := h2.1 w t1' k1
        rw [k2] at this; omega
      obtain ⟨w1, _⟩ := h4 hne
      have y1 := w1 t1' k1 (by rw [k2]; exact n1)
      have y2 := w1 t2' k3 (by rw [k4]; exact n2)
      rw [k2] at y1
      rw [k4] at y2
      omega
  · intro q
    have hc : settledR C.2 (T.length : Int) = 1 ∨ settledR C.2 (T.length : Int) = 2 := by
      revert q; unfold settledR; split
      · exact fun _ => .inl rfl
      · split
        · exact fun _ => .inr rfl
        · exact fun w => absurd rfl w
    rcases hc with w | w
    · rw [w]
      symm
      rw [settled_must] at w ⊢
      rw [g1]
      intro t ht
      obtain ⟨t', k1, k2⟩ := hsub t ht
      rw [← k2]
      exact h1.1 w t' k1
    · rw [w]
      symm
      rw [settled_never p1] at w
      rw [settled_never p2, g2]
      intro t ht
      obtain ⟨t', k1, k2⟩ := hsub t ht
      rw [← k2]
      exact h2.1 w t' k1

theorem byR_some {h : RHarb} (e : someB h = true) {l : Nat} (hl : l < h.letters.length) : byR h l = (metL (truthsR h []) l h.ships.length, 0) := by
  unfold byR
  rw [index_in (some_check e) ⟨by omega, by omega⟩, some_known e]
  simp only [if_true]
  rfl
theorem mem_met {T : List RTru} {l n : Nat} {x : Int} : x ∈ metL T l n ↔ ∃ s : Nat, x = s ∧ s < n ∧ ∃ t ∈ T, (s : Int) ∈ t.by_[l]! := by
  unfold metL metB
  simp only [List.mem_map, List.mem_filter, List.mem_range, List.any_eq_true, decide_eq_true_eq]
  constructor
  · rintro ⟨s, ⟨h1, i, hi, h2⟩, rfl⟩
    rw [getD_any hi] at h2
    exact ⟨s, rfl, h1, _, List.getElem_mem hi, h2⟩
  · rintro ⟨s, rfl, h1, t, ht, h2⟩
    obtain ⟨i, hi, rfl⟩ := List.mem_iff_getElem.1 ht
    exact ⟨s, ⟨h1, i, hi, by rw [getD_any hi]; exact h2⟩, rfl⟩

theorem by_more {h : RHarb} {r : RRep} (e : someB h = true) (e' : someB (moreH h r) = true) {l : Nat} (hl : l < h.letters.length) :
    (byR h l).2 = 0 ∧ (byR (moreH h r) l).2 = 0 ∧ ((byR (moreH h r) l).1.all fun x => decide (x ∈ (byR h l).1)) = true := by
  have hl' : l < (moreH h r).letters.length := hl
  rw [byR_some e hl, byR_some e' hl']
  refine ⟨rfl, rfl, ?_⟩
  rw [List.all_eq_true]
  intro x hx
  refine decide_eq_true ?_
  obtain ⟨s, h1, h2, t, ht, h3⟩ := mem_met.1 hx
  obtain ⟨t', m1, _, m3⟩ := truth_more ht
  exact mem_met.2 ⟨s, h1, h2, t', m1, m3 l hl _ h3⟩

theorem comes_more {h : RHarb} {r : RRep} {l : Nat} (hl : l < h.letters.length) {x : Int} (e : x ∈ comesE (moreH h r) l) : x ∈ comesE h l := by
  unfold comesE at *
  obtain ⟨t, ht, hx⟩ := List.mem_flatMap.1 e
  obtain ⟨t', m1, m2, m3⟩ := truth_more ht
  refine List.mem_flatMap.2 ⟨t', m1, ?_⟩
  unfold rowE at *
  obtain ⟨s, q1, q2⟩ := List.mem_map.1 hx
  refine List.mem_map.2 ⟨s, m3 l hl s q1, ?_⟩
  rw [m2]; exact q2

theorem come_more {h : RHarb} {r : RRep} (e : someB h = true) (e' : someB (moreH h r) = true) {l : Nat} (hl : l < h.letters.length) {d : Int} (hd : 0 ≤ d ∧ d ≤ 60) :
    (comeR h l d).2 = 0 ∧ (comeR (moreH h r) l d).2 = 0 ∧ ((comeR h l d).1 ≠ 0 → (comeR h l d).1 = (comeR (moreH h r) l d).1) := by
  have hl' : l < (moreH h r).letters.length := hl
  have p1 := comesE_pos e hl
  have p2 := comesE_pos e' hl'
  rw [comeR_some e hl hd, comeR_some e' hl' hd]
  refine ⟨rfl, rfl, fun q => ?_⟩
  dsimp only at q ⊢
  have hsub : ∀ x ∈ comesE (moreH h r) l, x ∈ comesE h l := fun x hx => comes_more hl hx
  generalize comesE h l = A at *
  generalize comesE (moreH h r) l = B at *
  have hc : settledR (cnt (fun e => untilB e d) A) (A.length : Int) = 1 ∨ settledR (cnt (fun e => untilB e d) A) (A.length : Int) = 2 := by
    revert q; unfold settledR; split
    · exact fun _ => .inl rfl
    · split
      · exact fun _ => .inr rfl
      · exact fun w => absurd rfl w
  rcases hc with w | w
  · rw [w]
    symm
    rw [settled_must, cnt_all] at w ⊢
    exact fun x hx => w x (hsub x hx)
  · rw [w]
    symm
    rw [settled_never (by omega), cnt_none] at w ⊢
    exact fun x hx => w x (hsub x hx)
end Go.Proofs.Ytnfmmhmfbipkjaa.Abs

/- What the arguments of the outright statements about harbours are. -/
namespace Go.Proofs.Ytnfmmhmfbipkjaa.Abs
set_option linter.unusedSimpArgs false
open Go Go.RowKit Go.Proofs
set_option maxRecDepth 100000

theorem open_b2 {l : List AV} (h : GoodT Try.prog 72 l) : ∃ x y : Nat, x < 256 ∧ y < 256 ∧ packT Try.prog 72 l = .agg [.int .u8 x, .int .u8 y] := by
  obtain ⟨xs, e, hl, hx⟩ := bytes_inv (k := 2) Try.underlying72 h
  match xs, hl with
  | [x, y], _ => exact ⟨x, y, hx x (by simp), hx y (by simp), e⟩

theorem plain72 : (Try.prog.readableRec 72 = true ∧ 72 < Try.prog.types.size) ∧ plainT Try.prog 7 72 = true := ⟨⟨by kernel_rfl, of_decide_eq_true (by kernel_rfl)⟩, by kernel_rfl⟩
end Go.Proofs.Ytnfmmhmfbipkjaa.Abs

/- What a number of 16 bits that is handed over is. -/
namespace Go.Proofs.Ytnfmmhmfbipkjaa.Abs
set_option linter.unusedSimpArgs false
open Go Go.RowKit Go.Proofs
set_option maxRecDepth 100000

theorem wf_u16 {n : Int} (h : (Lit.int .u16 n).wf = true) : ∃ k : Nat, n = k ∧ k < 65536 := by
  have := bounds_u16 h
  exact ⟨n.toNat, by omega, by omega⟩
end Go.Proofs.Ytnfmmhmfbipkjaa.Abs

/- A harbour that is handed over, and how long its reports can be; a report. -/
namespace Go.Proofs.Ytnfmmhmfbipkjaa.Abs
set_option linter.unusedSimpArgs false
open Go Go.RowKit Go.Proofs
set_option maxRecDepth 100000

theorem bytes71 : Try.prog.bytesOf 71 = 32 := by kernel_rfl
theorem reach_eq : reachBytes = 140737488351232 := rfl

theorem open_harbourB {l : List AV} (h : GoodT Try.prog 26 l) : ∃ x : RHarb, (HFit x ∧ x.reports.length * 32 ≤ 140737488351232) ∧ packT Try.prog 26 l = harbA x := by
  obtain ⟨x, hx, e⟩ := open_harbour h
  obtain ⟨ls, hl, hp, hf⟩ := h.struct_inv Try.underlying26
  obtain ⟨rs, hrs, _, _, _, hb⟩ := (hf 4 _ rfl).slice_inv Try.underlying24 repA (fun _ => True) (fun l hl => open_report hl)
  obtain ⟨a, ha, _⟩ := (hf 0 _ rfl).int_inv Try.underlying3
  obtain ⟨b, hbb, _⟩ := (hf 1 _ rfl).int_inv Try.underlying3
  obtain ⟨ss, hss, _⟩ := (hf 2 _ rfl).slice_inv Try.underlying22 shipA (fun x => x.name.size ≤ maxLen) (fun l hl => open_ship hl)
  obtain ⟨lt, hlt, _⟩ := (hf 3 _ rfl).slice_inv Try.underlying23 letA (fun _ => True) (fun l hl => open_letter hl)
  rw [bytes71, reach_eq] at hb
  refine ⟨x, ⟨hx, ?_⟩, e⟩
  have e2 : harbA x = AV.agg ((List.range 5).flatMap ls) := by
    rw [← e, hp, hl]; rfl
  rw [range5] at e2
  simp only [List.flatMap_cons, List.flatMap_nil, ha, hbb, hss, hlt, hrs, harbA, harbL, List.cons_append, List.nil_append, List.append_nil, AV.agg.injEq, List.cons.injEq, AV.slice.injEq] at e2
  have e3 := congrArg List.length e2.2.2.2.2.1.2
  rw [List.length_map, List.length_map] at e3
  rw [e3]
  exact hb
theorem plain71 : (Try.prog.readableRec 71 = true ∧ 71 < Try.prog.types.size) ∧ plainT Try.prog 7 71 = true := ⟨⟨by kernel_rfl, of_decide_eq_true (by kernel_rfl)⟩, by kernel_rfl⟩

theorem open_b4 {l : List AV} (h : GoodT Try.prog 90 l) : ∃ x y z w : Nat, x < 256 ∧ y < 256 ∧ z < 256 ∧ w < 256 ∧ packT Try.prog 90 l = .agg [.int .u8 x, .int .u8 y, .int .u8 z, .int .u8 w] := by
  obtain ⟨xs, e, hl, hx⟩ := bytes_inv (k := 4) Try.underlying90 h
  match xs, hl with
  | [x, y, z, w], _ => exact ⟨x, y, z, w, hx x (by simp), hx y (by simp), hx z (by simp), hx w (by simp), e⟩
theorem plain90 : (Try.prog.readableRec 90 = true ∧ 90 < Try.prog.types.size) ∧ plainT Try.prog 7 90 = true := ⟨⟨by kernel_rfl, of_decide_eq_true (by kernel_rfl)⟩, by kernel_rfl⟩
end Go.Proofs.Ytnfmmhmfbipkjaa.Abs
