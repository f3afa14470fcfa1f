/- The statement ShipSent: for any harbour, port, day and truth the law returns true. Conditions: none. -/
import Derived.Test.YtnfmmhmfbipkjaaK12
namespace Go.Proofs.Ytnfmmhmfbipkjaa.Abs
set_option linter.unusedSimpArgs false
set_option maxHeartbeats 4000000
set_option maxRecDepth 100000
open Go Go.RowKit Go.Proofs

def validB (h : RHarb) : Bool := decide ((checkH h).2.2 = 0)
def someB (h : RHarb) : Bool := validB h && okT h []

theorem valid_c (h : RHarb) (hs : hnamesFit h) : PCall Try.prog 36 [harbA h] (.bool (validB h)) := by
  intro m
  have a1 := refcheck_c h hs
  unfold validB
  generalize checkH h = C at *
  simp only [harbA, harbL] at *
  (refine acall_intro (E := envC (modeAt [] []) false []) (envCOk _ _ _) rfl Try.func36 rfl Try.call36 (by kernel_rfl) (by simp [Try.ntmps36]) ?_; simp only [Try.f36];  simp (maxSteps := 4000000) only [↓VP, VQ, ite_self, Nat.reduceEqDiff, Nat.reduceAdd, Nat.reduceSub, Nat.reduceMul, Nat.reduceLeDiff, Nat.reduceLT, Nat.reduceBEq, Int.reduceLE, Int.reduceLT, Int.reduceNeg, Int.reduceAdd, Int.reduceSub, Int.reduceToNat, ↓reduceIte, reduceCtorEq, ↓ixShip, ↓ixCall, ↓ixLet, ↓ixRep, Int.reduceEq])
  ((refine ACall.pure (a1) ?_; try simp (maxSteps := 4000000) only [↓VP, VQ, ite_self, Nat.reduceEqDiff, Nat.reduceAdd, Nat.reduceSub, Nat.reduceMul, Nat.reduceLeDiff, Nat.reduceLT, Nat.reduceBEq, Int.reduceLE, Int.reduceLT, Int.reduceNeg, Int.reduceAdd, Int.reduceSub, Int.reduceToNat, ↓reduceIte, reduceCtorEq, ↓ixShip, ↓ixCall, ↓ixLet, ↓ixRep]); try simp (maxSteps := 4000000) only [↓VP, VQ, ite_self, Nat.reduceEqDiff, Nat.reduceAdd, Nat.reduceSub, Nat.reduceMul, Nat.reduceLeDiff, Nat.reduceLT, Nat.reduceBEq, Int.reduceLE, Int.reduceLT, Int.reduceNeg, Int.reduceAdd, Int.reduceSub, Int.reduceToNat, ↓reduceIte, reduceCtorEq, ↓ixShip, ↓ixCall, ↓ixLet, ↓ixRep, eq_self, decide_true, decide_false, if_true, if_false, not_true_eq_false, List.append_eq])

theorem some_c (h : RHarb) (hs : hnamesFit h) : PCall Try.prog 46 [harbA h] (.bool (someB h)) := by
  intro m
  have a1 := valid_c h hs
  by_cases q : (checkH h).2.2 = 0
  · have hv : validB h = true := by unfold validB; exact decide_eq_true q
    have a2 := truths_c h (hok_check q) []
    unfold someB okT
    rw [hv] at a1 ⊢
    unfold trusA at a2
    generalize truthsR h [] = T at *
    simp only [harbA, harbL, ints, List.map_nil] at *
    (refine acall_intro (E := envC (modeAt [] []) false []) (envCOk _ _ _) rfl Try.func46 rfl Try.call46 (by kernel_rfl) (by simp [Try.ntmps46]) ?_; simp only [Try.f46];  simp (maxSteps := 4000000) only [↓VP, VQ, ite_self, Nat.reduceEqDiff, Nat.reduceAdd, Nat.reduceSub, Nat.reduceMul, Nat.reduceLeDiff, Nat.reduceLT, Nat.reduceBEq, Int.reduceLE, Int.reduceLT, Int.reduceNeg, Int.reduceAdd, Int.reduceSub, Int.reduceToNat, ↓reduceIte, reduceCtorEq, ↓ixShip, ↓ixCall, ↓ixLet, ↓ixRep, Int.reduceEq])
    ((refine ACall.pure (a1) ?_; try simp (maxSteps := 4000000) only [↓VP, VQ, ite_self, Nat.reduceEqDiff, Nat.reduceAdd, Nat.reduceSub, Nat.reduceMul, Nat.reduceLeDiff, Nat.reduceLT, Nat.reduceBEq, Int.reduceLE, Int.reduceLT, Int.reduceNeg, Int.reduceAdd, Int.reduceSub, Int.reduceToNat, ↓reduceIte, reduceCtorEq, ↓ixShip, ↓ixCall, ↓ixLet, ↓ixRep]); try simp (maxSteps := 4000000) only [↓VP, VQ, ite_self, Nat.reduceEqDiff, Nat.reduceAdd, Nat.reduceSub, Nat.reduceMul, Nat.reduceLeDiff, Nat.reduceLT, Nat.reduceBEq, Int.reduceLE, Int.reduceLT, Int.reduceNeg, Int.reduceAdd, Int.reduceSub, Int.reduceToNat, ↓reduceIte, reduceCtorEq, ↓ixShip, ↓ixCall, ↓ixLet, ↓ixRep, eq_self, decide_true, decide_false, if_true, if_false, not_true_eq_false, List.append_eq])
    ((refine ACall.pure (a2) ?_; try simp (maxSteps := 4000000) only [↓VP, VQ, ite_self, Nat.reduceEqDiff, Nat.reduceAdd, Nat.reduceSub, Nat.reduceMul, Nat.reduceLeDiff, Nat.reduceLT, Nat.reduceBEq, Int.reduceLE, Int.reduceLT, Int.reduceNeg, Int.reduceAdd, Int.reduceSub, Int.reduceToNat, ↓reduceIte, reduceCtorEq, ↓ixShip, ↓ixCall, ↓ixLet, ↓ixRep]); try simp (maxSteps := 4000000) only [↓VP, VQ, ite_self, Nat.reduceEqDiff, Nat.reduceAdd, Nat.reduceSub, Nat.reduceMul, Nat.reduceLeDiff, Nat.reduceLT, Nat.reduceBEq, Int.reduceLE, Int.reduceLT, Int.reduceNeg, Int.reduceAdd, Int.reduceSub, Int.reduceToNat, ↓reduceIte, reduceCtorEq, ↓ixShip, ↓ixCall, ↓ixLet, ↓ixRep, eq_self, decide_true, decide_false, if_true, if_false, not_true_eq_false, List.append_eq])
    intro _
    congr 1
    exact decide_eq_decide.2 (by omega)
  · have hv : validB h = false := by unfold validB; exact decide_eq_false q
    unfold someB
    rw [hv] at a1 ⊢
    simp only [harbA, harbL] at *
    (refine acall_intro (E := envC (modeAt [] []) false []) (envCOk _ _ _) rfl Try.func46 rfl Try.call46 (by kernel_rfl) (by simp [Try.ntmps46]) ?_; simp only [Try.f46];  simp (maxSteps := 4000000) only [↓VP, VQ, ite_self, Nat.reduceEqDiff, Nat.reduceAdd, Nat.reduceSub, Nat.reduceMul, Nat.reduceLeDiff, Nat.reduceLT, Nat.reduceBEq, Int.reduceLE, Int.reduceLT, Int.reduceNeg, Int.reduceAdd, Int.reduceSub, Int.reduceToNat, ↓reduceIte, reduceCtorEq, ↓ixShip, ↓ixCall, ↓ixLet, ↓ixRep, Int.reduceEq])
    ((refine ACall.pure (a1) ?_; try simp (maxSteps := 4000000) only [↓VP, VQ, ite_self, Nat.reduceEqDiff, Nat.reduceAdd, Nat.reduceSub, Nat.reduceMul, Nat.reduceLeDiff, Nat.reduceLT, Nat.reduceBEq, Int.reduceLE, Int.reduceLT, Int.reduceNeg, Int.reduceAdd, Int.reduceSub, Int.reduceToNat, ↓reduceIte, reduceCtorEq, ↓ixShip, ↓ixCall, ↓ixLet, ↓ixRep]); try simp (maxSteps := 4000000) only [↓VP, VQ, ite_self, Nat.reduceEqDiff, Nat.reduceAdd, Nat.reduceSub, Nat.reduceMul, Nat.reduceLeDiff, Nat.reduceLT, Nat.reduceBEq, Int.reduceLE, Int.reduceLT, Int.reduceNeg, Int.reduceAdd, Int.reduceSub, Int.reduceToNat, ↓reduceIte, reduceCtorEq, ↓ixShip, ↓ixCall, ↓ixLet, ↓ixRep, eq_self, decide_true, decide_false, if_true, if_false, not_true_eq_false, List.append_eq])
end Go.Proofs.Ytnfmmhmfbipkjaa.Abs

namespace Go.Proofs.Ytnfmmhmfbipkjaa.Abs
set_option linter.unusedSimpArgs false
open Go Go.RowKit Go.Proofs

theorem some_check {h : RHarb} (e : someB h = true) : (checkH h).2.2 = 0 := by
  unfold someB validB at e
  rw [Bool.and_eq_true, decide_eq_true_eq] at e
  exact e.1
theorem some_truths {h : RHarb} (e : someB h = true) : truthsR h [] ≠ [] := fun q => by
  unfold someB okT at e
  rw [Bool.and_eq_true, decide_eq_true_eq, q] at e
  exact absurd e.2 (by decide)
theorem some_known {h : RHarb} (e : someB h = true) : knownR h 0 = (truthsR h [], 0) := by
  unfold knownR
  rw [if_neg (by decide), if_neg (some_truths e)]
theorem known_some {h : RHarb} {c : Int} (hc : c = 0 → (checkH h).2.2 = 0) (e : (knownR h c).2 = 0) : someB h = true ∧ c = 0 := by
  unfold knownR at e
  split at e
  · rename_i q; exact absurd e q
  · rename_i q
    split at e
    · cases e
    · rename_i q2
      have q3 : c = 0 := by omega
      refine ⟨?_, q3⟩
      unfold someB validB okT
      rw [Bool.and_eq_true, decide_eq_true_eq, decide_eq_true_eq]
      exact ⟨hc q3, List.length_pos_iff.2 q2⟩

theorem index_in {c n b : Int} (hc : c = 0) (h : 0 ≤ n ∧ n ≤ b - 1) : indexE c n b = 0 := by
  unfold indexE
  rw [if_pos hc, if_neg (by rw [Bool.not_eq_true, offP_false]; exact h)]
theorem day_in {d e : Int} (he : e = 0) (h : 0 ≤ d ∧ d ≤ 60) : dayE d e = 0 := by
  unfold dayE
  rw [if_pos he, if_neg (by rw [Bool.not_eq_true, offP_false]; exact h)]
/-- The days at which a letter comes, in all truths, by all ships that take it. -/
def comesE (h : RHarb) (l : Nat) : List Int := (truthsR h []).flatMap (rowE h l)

theorem comeR_some {h : RHarb} (hs : someB h = true) {l : Nat} (hl : l < h.letters.length) {d : Int} (hd : 0 ≤ d ∧ d ≤ 60) :
    comeR h l d = (settledR (cnt (fun e => untilB e d) (comesE h l)) ((comesE h l).length : Int), 0) := by
  unfold comeR
  rw [day_in (index_in (some_check hs) ⟨by omega, by omega⟩) hd, some_known hs]
  obtain ⟨i1, i2⟩ := comeTo_is h (truthsR h []) l d _ (Nat.le_refl _)
  simp only [Int.toNat_natCast, if_true]
  rw [i1, i2, List.take_length]
  rfl
theorem comeR_some_of {h : RHarb} {letter d : Int} (e : (comeR h letter d).2 = 0) : someB h = true ∧ 0 ≤ letter ∧ letter ≤ h.letters.length - 1 := by
  unfold comeR at e
  simp only at e
  split at e
  · rename_i q
    obtain ⟨q1, q2⟩ := known_some (fun q => (indexE_zero (dayE_zero q).1).1) q
    exact ⟨q1, (indexE_zero (dayE_zero q2).1).2⟩
  · rename_i q; exact absurd e q

theorem truths_go {h : RHarb} {but : List Int} {t : RTru} (e : t ∈ truthsR h but) : trueB h but t.fleet = true := by
  unfold truthsR at e
  simp only [List.mem_map, List.mem_filter] at e
  obtain ⟨f, ⟨_, h2⟩, h3⟩ := e
  subst h3
  exact h2
theorem truths_at {h : RHarb} {but : List Int} {t : RTru} (e : t ∈ truthsR h but) {l : Nat} (hl : l < h.letters.length) : t.by_[l]! = couldL h t.fleet l but h.ships.length := by
  rw [truths_by e, byTo_at h _ _ hl]
theorem truths_could {h : RHarb} {but : List Int} {t : RTru} (e : t ∈ truthsR h but) {l : Nat} (hl : l < h.letters.length) : 0 < (couldL h t.fleet l but h.ships.length).length := by
  have := truths_go e
  unfold trueB goB at this
  rw [Bool.and_eq_true, List.all_eq_true] at this
  exact of_decide_eq_true (this.2 l (List.mem_range.2 hl))

theorem comesE_pos {h : RHarb} (hs : someB h = true) {l : Nat} (hl : l < h.letters.length) : 0 < (comesE h l).length := by
  obtain ⟨t, ht⟩ := List.exists_mem_of_ne_nil _ (some_truths hs)
  have h1 : 0 < (rowE h l t).length := by
    unfold rowE
    rw [List.length_map, truths_at ht hl]
    exact truths_could ht hl
  obtain ⟨e, he⟩ := List.exists_mem_of_ne_nil _ (List.length_pos_iff.1 h1)
  exact List.length_pos_of_mem (List.mem_flatMap.2 ⟨t, ht, he⟩)

theorem atC_in {l : List RCall} {p : Int} (e : 0 ≤ atC l p) : (atC l p).toNat < l.length := by
  unfold atC at *
  rcases idxL_cases (fun c : RCall => decide (c.port = p)) l with q | ⟨k, hk, q⟩
  · omega
  · omega

/-- A ship that takes a letter calls behind the letter's day, if it calls. -/
theorem dayR_takes {h : RHarb} (hh : HOk h) {f : List Fate} (hf : FOk h f) {s : Nat} (hs : s < h.ships.length) {port day : Int} (ht : takesB (h.ships[s]!) port day = true) :
    dayR h f s port = -1 ∨ day < dayR h f s port := by
  unfold takesB at ht
  rw [Bool.and_eq_true, decide_eq_true_eq, decide_eq_true_eq] at ht
  have h1 := (hh.ship s hs).call _ (atC_in ht.2)
  have h2 := hf.late s (by have := hf.n; omega)
  unfold dayR
  split
  · exact .inl rfl
  · right
    generalize ((h.ships[s]!).calls[(atC (h.ships[s]!).calls port).toNat]!) = c at *
    omega

theorem comesE_late {h : RHarb} (hs : someB h = true) {l : Nat} (hl : l < h.letters.length) {e : Int} (he : e ∈ comesE h l) : untilB e (h.letters[l]!).day = false := by
  have hh := hok_check (some_check hs)
  obtain ⟨t, ht, he⟩ := List.mem_flatMap.1 he
  unfold rowE at he
  rw [truths_at ht hl] at he
  obtain ⟨s, hs2, rfl⟩ := List.mem_map.1 he
  unfold couldL at hs2
  simp only [List.mem_map, List.mem_filter, List.mem_range] at hs2
  obtain ⟨i, ⟨h1, h2⟩, rfl⟩ := hs2
  unfold canB shipB at h2
  simp only [Bool.and_eq_true] at h2
  have := dayR_takes hh (truths_fok hh ht) h1 h2.1.1
  rw [Int.toNat_natCast]
  have hd := (hh.letter l hl).2.1
  unfold untilB
  rw [Bool.and_eq_false_iff, decide_eq_false_iff_not, decide_eq_false_iff_not]
  omega

theorem cnt_zero {α : Type} {p : α → Bool} {l : List α} (h : ∀ x ∈ l, p x = false) : cnt p l = 0 := by
  unfold cnt
  rw [List.filter_eq_nil_iff.2 (fun x hx => by rw [h x hx]; decide)]
  rfl
theorem cnt_mono {α : Type} {p q : α → Bool} {l : List α} (h : ∀ x ∈ l, p x = true → q x = true) : cnt p l ≤ cnt q l := by
  induction l with
  | nil => exact Int.le_refl _
  | cons x l ih =>
    have ih := ih (fun y hy => h y (List.mem_cons_of_mem _ hy))
    have h0 := h x List.mem_cons_self
    unfold cnt at *
    simp only [List.filter_cons]
    by_cases q1 : p x = true
    · rw [if_pos q1, if_pos (h0 q1)]; simp only [List.length_cons]; omega
    · rw [if_neg q1]
      split
      · simp only [List.length_cons]; omega
      · exact ih

/-- What ShipLater says. -/
theorem come_later {h : RHarb} (hs : someB h = true) {l : Nat} (hl : l < h.letters.length) {a b : Int} (ha : 0 ≤ a) (hab : a ≤ b) (hb : b ≤ 60) :
    ∃ m n : Int, comeR h l a = (m, 0) ∧ comeR h l b = (n, 0) ∧ (m = 1 → n = 1) ∧ (n = 2 → m = 2) ∧ (m = 0 → n ≠ 2) := by
  refine ⟨_, _, comeR_some hs hl ⟨ha, by omega⟩, comeR_some hs hl ⟨by omega, hb⟩, ?_⟩
  have h1 := comesE_pos hs hl
  have h2 := cnt_le (fun e => untilB e a) (comesE h l)
  have h3 := cnt_le (fun e => untilB e b) (comesE h l)
  have h4 : cnt (fun e => untilB e a) (comesE h l) ≤ cnt (fun e => untilB e b) (comesE h l) := cnt_mono fun x _ => by
    simp only [untilB, Bool.and_eq_true, decide_eq_true_eq]; omega
  generalize cnt (fun e => untilB e a) (comesE h l) = A at *
  generalize cnt (fun e => untilB e b) (comesE h l) = B at *
  unfold settledR
  refine ⟨?_, ?_, ?_⟩ <;> (repeat' split) <;> omega
theorem come_own {h : RHarb} (hs : someB h = true) {l : Nat} (hl : l < h.letters.length) : comeR h l (h.letters[l]!).day = (2, 0) := by
  have hh := hok_check (some_check hs)
  have hd := (hh.letter l hl).2.1
  rw [comeR_some hs hl ⟨by omega, by omega⟩, cnt_zero (fun e he => comesE_late hs hl he)]
  have h1 := comesE_pos hs hl
  unfold settledR
  rw [if_neg (by omega), if_pos rfl]
end Go.Proofs.Ytnfmmhmfbipkjaa.Abs

namespace Go.Proofs.Ytnfmmhmfbipkjaa.Abs
set_option linter.unusedSimpArgs false
set_option maxHeartbeats 4000000
set_option maxRecDepth 100000
open Go Go.RowKit Go.Proofs

theorem natMod (a b : Nat) : ((a : Int) % (b : Int)) = ((a % b : Nat) : Int) := (Int.natCast_emod a b).symm
theorem natMod61 (a : Nat) : ((a : Int) % 61) = ((a % 61 : Nat) : Int) := (Int.natCast_emod a 61).symm

theorem shipLater_bad (h : RHarb) (hf : HFit h) (x y z : Nat) (e : ¬ (someB h = true ∧ 0 < h.letters.length)) : PCall Try.prog 11 [harbA h, .agg [.int .u8 x, .int .u8 y, .int .u8 z]] (.bool true) := by
  intro m
  have a1 := some_c h hf.names
  have a2 := come_top h hf.names 0 0
  have aw := awake_c
  have hne : (comeR h 0 0).2 ≠ 0 := fun q => by
    obtain ⟨q1, q2⟩ := comeR_some_of q
    exact e ⟨q1, by omega⟩
  generalize comeR h 0 0 = C at *
  generalize someB h = b at *
  simp only [harbA, harbL, ints] at *
  (refine acall_intro (E := envC (modeAt [] []) false []) (envCOk _ _ _) rfl Try.func11 rfl Try.call11 (by kernel_rfl) (by simp [Try.ntmps11]) ?_; simp only [Try.f11];  simp (maxSteps := 4000000) only [↓VP, VQ, ite_self, Nat.reduceEqDiff, Nat.reduceAdd, Nat.reduceSub, Nat.reduceMul, Nat.reduceLeDiff, Nat.reduceLT, Nat.reduceBEq, Int.reduceLE, Int.reduceLT, Int.reduceNeg, Int.reduceAdd, Int.reduceSub, Int.reduceToNat, ↓reduceIte, reduceCtorEq, ↓ixShip, ↓ixCall, ↓ixLet, ↓ixRep, Int.reduceEq])
  ((refine ACall.pure (a1) ?_; try simp (maxSteps := 4000000) only [↓VP, VQ, ite_self, Nat.reduceEqDiff, Nat.reduceAdd, Nat.reduceSub, Nat.reduceMul, Nat.reduceLeDiff, Nat.reduceLT, Nat.reduceBEq, Int.reduceLE, Int.reduceLT, Int.reduceNeg, Int.reduceAdd, Int.reduceSub, Int.reduceToNat, ↓reduceIte, reduceCtorEq, ↓ixShip, ↓ixCall, ↓ixLet, ↓ixRep]); try simp (maxSteps := 4000000) only [↓VP, VQ, ite_self, Nat.reduceEqDiff, Nat.reduceAdd, Nat.reduceSub, Nat.reduceMul, Nat.reduceLeDiff, Nat.reduceLT, Nat.reduceBEq, Int.reduceLE, Int.reduceLT, Int.reduceNeg, Int.reduceAdd, Int.reduceSub, Int.reduceToNat, ↓reduceIte, reduceCtorEq, ↓ixShip, ↓ixCall, ↓ixLet, ↓ixRep, eq_self, decide_true, decide_false, if_true, if_false, not_true_eq_false, List.append_eq])
  repeat' (first | intro _ | refine And.intro ?_ ?_)
  all_goals try (first | omega | (simp only [List.length_map, List.length_cons, List.length_nil, List.length_append, Nat.zero_add]; omega) | exact nnC _ | exact nlC (by decide) _ | exact nbC rfl)
  all_goals first
    | (exfalso; refine e ⟨by assumption, ?_⟩; omega)
    | skip
  all_goals
    (refine ACall.pure (a2) ?_; try simp (maxSteps := 4000000) only [↓VP, VQ, ite_self, Nat.reduceEqDiff, Nat.reduceAdd, Nat.reduceSub, Nat.reduceMul, Nat.reduceLeDiff, Nat.reduceLT, Nat.reduceBEq, Int.reduceLE, Int.reduceLT, Int.reduceNeg, Int.reduceAdd, Int.reduceSub, Int.reduceToNat, ↓reduceIte, reduceCtorEq, ↓ixShip, ↓ixCall, ↓ixLet, ↓ixRep, eq_self, decide_true, decide_false, if_true, if_false, not_true_eq_false, List.append_eq, hne])
    ((refine ACall.pure (aw) ?_; try simp (maxSteps := 4000000) only [↓VP, VQ, ite_self, Nat.reduceEqDiff, Nat.reduceAdd, Nat.reduceSub, Nat.reduceMul, Nat.reduceLeDiff, Nat.reduceLT, Nat.reduceBEq, Int.reduceLE, Int.reduceLT, Int.reduceNeg, Int.reduceAdd, Int.reduceSub, Int.reduceToNat, ↓reduceIte, reduceCtorEq, ↓ixShip, ↓ixCall, ↓ixLet, ↓ixRep]); try simp (maxSteps := 4000000) only [↓VP, VQ, ite_self, Nat.reduceEqDiff, Nat.reduceAdd, Nat.reduceSub, Nat.reduceMul, Nat.reduceLeDiff, Nat.reduceLT, Nat.reduceBEq, Int.reduceLE, Int.reduceLT, Int.reduceNeg, Int.reduceAdd, Int.reduceSub, Int.reduceToNat, ↓reduceIte, reduceCtorEq, ↓ixShip, ↓ixCall, ↓ixLet, ↓ixRep, eq_self, decide_true, decide_false, if_true, if_false, not_true_eq_false, List.append_eq])

theorem shipLater_ok (h : RHarb) (hf : HFit h) (x y z : Nat) (hx : x < 256) (hy : y < 256) (hz : z < 256) (hs : someB h = true) (hl : 0 < h.letters.length) : PCall Try.prog 11 [harbA h, .agg [.int .u8 x, .int .u8 y, .int .u8 z]] (.bool true) := by
  intro m
  have hh := hok_check (some_check hs)
  have hnl := hh.nl
  have a1 := some_c h hf.names
  rw [hs] at a1
  have hL : x % h.letters.length < h.letters.length := Nat.mod_lt _ hl
  have hA : y % 61 < 61 := Nat.mod_lt _ (by decide)
  have hB : z % 61 < 61 := Nat.mod_lt _ (by decide)
  have aw := awake_c
  have hmod := natMod x h.letters.length
  generalize x % h.letters.length = L at *
  have hday := (hh.letter L hL).2.1
  have cm := come_top h hf.names L (min ((y % 61 : Nat) : Int) ((z % 61 : Nat) : Int))
  have cx := come_top h hf.names L (max ((y % 61 : Nat) : Int) ((z % 61 : Nat) : Int))
  have co := come_top h hf.names L (h.letters[L]!).day
  obtain ⟨mm, nn, e1, e2, w1, w2, w3⟩ := come_later hs hL (a := min ((y % 61 : Nat) : Int) ((z % 61 : Nat) : Int)) (b := max ((y % 61 : Nat) : Int) ((z % 61 : Nat) : Int)) (by omega) (by omega) (by omega)
  rw [e1] at cm
  rw [e2] at cx
  rw [come_own hs hL] at co
  simp only [harbA, harbL, ints] at *
  (refine acall_intro (E := envC (modeAt [] []) false []) (envCOk _ _ _) rfl Try.func11 rfl Try.call11 (by kernel_rfl) (by simp [Try.ntmps11]) ?_; simp only [Try.f11];  simp (maxSteps := 4000000) only [↓VP, VQ, ite_self, Nat.reduceEqDiff, Nat.reduceAdd, Nat.reduceSub, Nat.reduceMul, Nat.reduceLeDiff, Nat.reduceLT, Nat.reduceBEq, Int.reduceLE, Int.reduceLT, Int.reduceNeg, Int.reduceAdd, Int.reduceSub, Int.reduceToNat, ↓reduceIte, reduceCtorEq, ↓ixShip, ↓ixCall, ↓ixLet, ↓ixRep, Int.reduceEq])
  ((refine ACall.pure (a1) ?_; try simp (maxSteps := 4000000) only [↓VP, VQ, ite_self, Nat.reduceEqDiff, Nat.reduceAdd, Nat.reduceSub, Nat.reduceMul, Nat.reduceLeDiff, Nat.reduceLT, Nat.reduceBEq, Int.reduceLE, Int.reduceLT, Int.reduceNeg, Int.reduceAdd, Int.reduceSub, Int.reduceToNat, ↓reduceIte, reduceCtorEq, ↓ixShip, ↓ixCall, ↓ixLet, ↓ixRep]); try simp (maxSteps := 4000000) only [↓VP, VQ, ite_self, Nat.reduceEqDiff, Nat.reduceAdd, Nat.reduceSub, Nat.reduceMul, Nat.reduceLeDiff, Nat.reduceLT, Nat.reduceBEq, Int.reduceLE, Int.reduceLT, Int.reduceNeg, Int.reduceAdd, Int.reduceSub, Int.reduceToNat, ↓reduceIte, reduceCtorEq, ↓ixShip, ↓ixCall, ↓ixLet, ↓ixRep, eq_self, decide_true, decide_false, if_true, if_false, not_true_eq_false, List.append_eq])
  repeat' (first | intro _ | refine And.intro ?_ ?_)
  all_goals try (first | omega | (simp only [List.length_map, List.length_cons, List.length_nil, List.length_append, Nat.zero_add]; omega) | exact nnC _ | exact nlC (by decide) _ | exact nbC rfl)
  (refine adraw (by first | exact envOk _ | exact envCOk _ _ _) mixed [⟨false, false, 0⟩, ⟨false, false, 0⟩, ⟨false, false, 0⟩, ⟨false, false, 0⟩, ⟨false, false, 0⟩, ⟨false, false, 0⟩, ⟨false, false, 0⟩, ⟨false, false, 0⟩, ⟨false, false, 0⟩, ⟨false, false, 0⟩, ⟨false, false, 0⟩, ⟨false, false, 0⟩, ⟨false, false, 0⟩, ⟨false, false, 0⟩, ⟨false, false, 0⟩, ⟨false, false, 0⟩, ⟨false, false, 0⟩, ⟨false, false, 0⟩] (by kernel_rfl) ?_; show vcOpsD _ _ _ (_ :: _) _ _)
  simp (maxSteps := 4000000) only [↓VP, VQ, ite_self, Nat.reduceEqDiff, Nat.reduceAdd, Nat.reduceSub, Nat.reduceMul, Nat.reduceLeDiff, Nat.reduceLT, Nat.reduceBEq, Int.reduceLE, Int.reduceLT, Int.reduceNeg, Int.reduceAdd, Int.reduceSub, Int.reduceToNat, ↓reduceIte, reduceCtorEq, ↓ixShip, ↓ixCall, ↓ixLet, ↓ixRep, hmod, natMod61]
  repeat' (first | intro _ | refine And.intro ?_ ?_)
  all_goals try (first | omega | (simp only [List.length_map, List.length_cons, List.length_nil, List.length_append, Nat.zero_add]; omega) | exact nnC _ | exact nlC (by decide) _ | exact nbC rfl)
  ((refine ACall.pure (cm) ?_; try simp (maxSteps := 4000000) only [↓VP, VQ, ite_self, Nat.reduceEqDiff, Nat.reduceAdd, Nat.reduceSub, Nat.reduceMul, Nat.reduceLeDiff, Nat.reduceLT, Nat.reduceBEq, Int.reduceLE, Int.reduceLT, Int.reduceNeg, Int.reduceAdd, Int.reduceSub, Int.reduceToNat, ↓reduceIte, reduceCtorEq, ↓ixShip, ↓ixCall, ↓ixLet, ↓ixRep]); try simp (maxSteps := 4000000) only [↓VP, VQ, ite_self, Nat.reduceEqDiff, Nat.reduceAdd, Nat.reduceSub, Nat.reduceMul, Nat.reduceLeDiff, Nat.reduceLT, Nat.reduceBEq, Int.reduceLE, Int.reduceLT, Int.reduceNeg, Int.reduceAdd, Int.reduceSub, Int.reduceToNat, ↓reduceIte, reduceCtorEq, ↓ixShip, ↓ixCall, ↓ixLet, ↓ixRep, eq_self, decide_true, decide_false, if_true, if_false, not_true_eq_false, List.append_eq])
  ((refine ACall.pure (cx) ?_; try simp (maxSteps := 4000000) only [↓VP, VQ, ite_self, Nat.reduceEqDiff, Nat.reduceAdd, Nat.reduceSub, Nat.reduceMul, Nat.reduceLeDiff, Nat.reduceLT, Nat.reduceBEq, Int.reduceLE, Int.reduceLT, Int.reduceNeg, Int.reduceAdd, Int.reduceSub, Int.reduceToNat, ↓reduceIte, reduceCtorEq, ↓ixShip, ↓ixCall, ↓ixLet, ↓ixRep]); try simp (maxSteps := 4000000) only [↓VP, VQ, ite_self, Nat.reduceEqDiff, Nat.reduceAdd, Nat.reduceSub, Nat.reduceMul, Nat.reduceLeDiff, Nat.reduceLT, Nat.reduceBEq, Int.reduceLE, Int.reduceLT, Int.reduceNeg, Int.reduceAdd, Int.reduceSub, Int.reduceToNat, ↓reduceIte, reduceCtorEq, ↓ixShip, ↓ixCall, ↓ixLet, ↓ixRep, eq_self, decide_true, decide_false, if_true, if_false, not_true_eq_false, List.append_eq])
  (refine adraw (by first | exact envOk _ | exact envCOk _ _ _) mixed [⟨false, false, 0⟩, ⟨false, false, 0⟩, ⟨false, false, 0⟩, ⟨false, false, 0⟩, ⟨false, false, 0⟩, ⟨false, false, 0⟩, ⟨false, false, 0⟩, ⟨false, false, 0⟩, ⟨false, false, 0⟩, ⟨false, false, 0⟩, ⟨false, false, 0⟩, ⟨false, false, 0⟩, ⟨false, false, 0⟩, ⟨false, false, 0⟩] (by kernel_rfl) ?_; show vcOpsD _ _ _ (_ :: _) _ _)
  simp (maxSteps := 4000000) only [↓VP, VQ, ite_self, Nat.reduceEqDiff, Nat.reduceAdd, Nat.reduceSub, Nat.reduceMul, Nat.reduceLeDiff, Nat.reduceLT, Nat.reduceBEq, Int.reduceLE, Int.reduceLT, Int.reduceNeg, Int.reduceAdd, Int.reduceSub, Int.reduceToNat, ↓reduceIte, reduceCtorEq, ↓ixShip, ↓ixCall, ↓ixLet, ↓ixRep]
  repeat' (first | intro _ | refine And.intro ?_ ?_)
  all_goals try (first | omega | (simp only [List.length_map, List.length_cons, List.length_nil, List.length_append, Nat.zero_add]; omega) | exact nnC _ | exact nlC (by decide) _ | exact nbC rfl)
  (refine ⟨_, co, ?_⟩; try simp (maxSteps := 4000000) only [↓VP, VQ, ite_self, Nat.reduceEqDiff, Nat.reduceAdd, Nat.reduceSub, Nat.reduceMul, Nat.reduceLeDiff, Nat.reduceLT, Nat.reduceBEq, Int.reduceLE, Int.reduceLT, Int.reduceNeg, Int.reduceAdd, Int.reduceSub, Int.reduceToNat, ↓reduceIte, reduceCtorEq, ↓ixShip, ↓ixCall, ↓ixLet, ↓ixRep])
  repeat' (first | intro _ | refine And.intro ?_ ?_)
  all_goals first
    | (exfalso; omega)
    | (((refine ACall.pure (aw) ?_; try simp (maxSteps := 4000000) only [↓VP, VQ, ite_self, Nat.reduceEqDiff, Nat.reduceAdd, Nat.reduceSub, Nat.reduceMul, Nat.reduceLeDiff, Nat.reduceLT, Nat.reduceBEq, Int.reduceLE, Int.reduceLT, Int.reduceNeg, Int.reduceAdd, Int.reduceSub, Int.reduceToNat, ↓reduceIte, reduceCtorEq, ↓ixShip, ↓ixCall, ↓ixLet, ↓ixRep]); try simp (maxSteps := 4000000) only [↓VP, VQ, ite_self, Nat.reduceEqDiff, Nat.reduceAdd, Nat.reduceSub, Nat.reduceMul, Nat.reduceLeDiff, Nat.reduceLT, Nat.reduceBEq, Int.reduceLE, Int.reduceLT, Int.reduceNeg, Int.reduceAdd, Int.reduceSub, Int.reduceToNat, ↓reduceIte, reduceCtorEq, ↓ixShip, ↓ixCall, ↓ixLet, ↓ixRep, eq_self, decide_true, decide_false, if_true, if_false, not_true_eq_false, List.append_eq]))

theorem shipLater_c (h : RHarb) (hf : HFit h) (x y z : Nat) (hx : x < 256) (hy : y < 256) (hz : z < 256) : PCall Try.prog 11 [harbA h, .agg [.int .u8 x, .int .u8 y, .int .u8 z]] (.bool true) := by
  by_cases e : someB h = true ∧ 0 < h.letters.length
  · exact shipLater_ok h hf x y z hx hy hz e.1 e.2
  · exact shipLater_bad h hf x y z e
end Go.Proofs.Ytnfmmhmfbipkjaa.Abs

namespace Go.Proofs.Ytnfmmhmfbipkjaa.Abs
set_option linter.unusedSimpArgs false
open Go Go.RowKit Go.Proofs
set_option maxRecDepth 100000

theorem open_b3 {l : List AV} (h : GoodT Try.prog 86 l) : ∃ x y z : Nat, x < 256 ∧ y < 256 ∧ z < 256 ∧ packT Try.prog 86 l = .agg [.int .u8 x, .int .u8 y, .int .u8 z] := by
  obtain ⟨xs, e, hl, hx⟩ := bytes_inv (k := 3) Try.underlying86 h
  match xs, hl with
  | [x, y, z], _ => exact ⟨x, y, z, hx x (by simp), hx y (by simp), hx z (by simp), e⟩

theorem open_b2 {l : List AV} (h : GoodT Try.prog 72 l) : ∃ x y : Nat, x < 256 ∧ y < 256 ∧ packT Try.prog 72 l = .agg [.int .u8 x, .int .u8 y] := by
  obtain ⟨xs, e, hl, hx⟩ := bytes_inv (k := 2) Try.underlying72 h
  match xs, hl with
  | [x, y], _ => exact ⟨x, y, hx x (by simp), hx y (by simp), e⟩

theorem plain86 : (Try.prog.readableRec 86 = true ∧ 86 < Try.prog.types.size) ∧ plainT Try.prog 7 86 = true := ⟨⟨by kernel_rfl, of_decide_eq_true (by kernel_rfl)⟩, by kernel_rfl⟩
theorem plain72 : (Try.prog.readableRec 72 = true ∧ 72 < Try.prog.types.size) ∧ plainT Try.prog 7 72 = true := ⟨⟨by kernel_rfl, of_decide_eq_true (by kernel_rfl)⟩, by kernel_rfl⟩
end Go.Proofs.Ytnfmmhmfbipkjaa.Abs

namespace Go.Proofs.Ytnfmmhmfbipkjaa.Abs
set_option linter.unusedSimpArgs false
open Go Go.RowKit Go.Proofs

theorem rowE_ne {h : RHarb} {t : RTru} (ht : t ∈ truthsR h []) {l : Nat} (hl : l < h.letters.length) : ∃ e, e ∈ rowE h l t := by
  have h1 : 0 < (rowE h l t).length := by
    unfold rowE
    rw [List.length_map, truths_at ht hl]
    exact truths_could ht hl
  exact List.exists_mem_of_ne_nil _ (List.length_pos_iff.1 h1)

theorem pairE_mem {h : RHarb} {a b : Nat} {t : RTru} {d : Int × Int} : d ∈ pairE h a b t ↔ d.1 ∈ rowE h a t ∧ d.2 ∈ rowE h b t := by
  unfold pairE besideE rowE
  simp only [List.mem_flatMap, List.mem_map]
  constructor
  · rintro ⟨s, hs, u, hu, rfl⟩
    exact ⟨⟨s, hs, rfl⟩, ⟨u, hu, rfl⟩⟩
  · rintro ⟨⟨s, hs, e1⟩, ⟨u, hu, e2⟩⟩
    exact ⟨s, hs, u, hu, by rw [e1, e2]⟩

def pairsE (h : RHarb) (a b : Nat) : List (Int × Int) := (truthsR h []).flatMap (pairE h a b)

theorem beforeR_some {h : RHarb} (hs : someB h = true) {a b : Nat} (ha : a < h.letters.length) (hb : b < h.letters.length) (hab : a ≠ b) :
    beforeR h a b = (settledR (cnt befP (pairsE h a b)) ((pairsE h a b).length : Int), 0) := by
  have e : befE h a b = 0 := by
    unfold befE
    rw [index_in (some_check hs) ⟨by omega, by omega⟩, index_in (some_check hs) ⟨by omega, by omega⟩]
    rw [if_pos rfl, if_neg (by omega)]
  unfold beforeR
  rw [e, some_known hs, if_pos rfl]
  obtain ⟨i1, i2⟩ := befTo_is h (truthsR h []) a b _ (Nat.le_refl _)
  rw [Int.toNat_natCast, Int.toNat_natCast]
  simp only
  rw [i1, i2, List.take_length]
  rfl
theorem beforeR_one {h : RHarb} (hs : someB h = true) {a : Nat} (ha : a < h.letters.length) : beforeR h a a = (0, 2) := by
  have e : befE h a a = 2 := by
    unfold befE
    rw [index_in (some_check hs) ⟨by omega, by omega⟩]
    rw [if_pos rfl, if_pos (by simp)]
  have k : knownR h 2 = ([], 2) := by unfold knownR; rw [if_pos (by decide)]
  unfold beforeR
  rw [e, k, if_neg (by decide)]
theorem beforeR_some_of {h : RHarb} {a b : Int} (e : (beforeR h a b).2 = 0) : someB h = true ∧ (0 ≤ a ∧ a ≤ (h.letters.length : Int) - 1) ∧ (0 ≤ b ∧ b ≤ (h.letters.length : Int) - 1) := by
  unfold beforeR at e
  split at e
  · rename_i q
    obtain ⟨q1, q2⟩ := known_some (fun q => (befE_zero q).1) q
    exact ⟨q1, (befE_zero q2).2.1, (befE_zero q2).2.2.1⟩
  · rename_i q; exact absurd e q

theorem pairsE_pos {h : RHarb} (hs : someB h = true) {a b : Nat} (ha : a < h.letters.length) (hb : b < h.letters.length) : 0 < (pairsE h a b).length := by
  obtain ⟨t, ht⟩ := List.exists_mem_of_ne_nil _ (some_truths hs)
  obtain ⟨x, hx⟩ := rowE_ne ht ha
  obtain ⟨y, hy⟩ := rowE_ne ht hb
  exact List.length_pos_of_mem (List.mem_flatMap.2 ⟨t, ht, pairE_mem.2 ⟨show (x, y).1 ∈ _ from hx, hy⟩⟩)

theorem before_must {h : RHarb} {a b : Nat} : settledR (cnt befP (pairsE h a b)) ((pairsE h a b).length : Int) = 1 ↔ ∀ t ∈ truthsR h [], ∀ x ∈ rowE h a t, ∀ y ∈ rowE h b t, befB x y = true := by
  have h1 : settledR (cnt befP (pairsE h a b)) ((pairsE h a b).length : Int) = 1 ↔ cnt befP (pairsE h a b) = ((pairsE h a b).length : Int) := by
    unfold settledR
    constructor
    · intro q
      split at q
      · assumption
      · split at q <;> cases q
    · intro q; rw [if_pos q]
  rw [h1, cnt_all]
  unfold pairsE
  constructor
  · intro q t ht x hx y hy
    exact q (x, y) (List.mem_flatMap.2 ⟨t, ht, pairE_mem.2 ⟨hx, hy⟩⟩)
  · intro q d hd
    obtain ⟨t, ht, hd⟩ := List.mem_flatMap.1 hd
    obtain ⟨q1, q2⟩ := pairE_mem.1 hd
    exact q t ht _ q1 _ q2
theorem before_never {h : RHarb} (hs : someB h = true) {a b : Nat} (ha : a < h.letters.length) (hb : b < h.letters.length) (q : ∀ t ∈ truthsR h [], ∀ x ∈ rowE h a t, ∀ y ∈ rowE h b t, befB x y = false) : settledR (cnt befP (pairsE h a b)) ((pairsE h a b).length : Int) = 2 := by
  rw [cnt_zero fun d hd => by
    obtain ⟨t, ht, hd⟩ := List.mem_flatMap.1 hd
    obtain ⟨q1, q2⟩ := pairE_mem.1 hd
    exact q t ht _ q1 _ q2]
  have := pairsE_pos hs ha hb
  unfold settledR
  rw [if_neg (by omega), if_pos rfl]

theorem befB_iff {x y : Int} : befB x y = true ↔ 0 ≤ x ∧ (y < 0 ∨ x < y) := by
  unfold befB untilB
  simp only [Bool.and_eq_true, Bool.not_eq_true', Bool.and_eq_false_iff, decide_eq_true_eq, decide_eq_false_iff_not]
  omega
theorem befB_not {x y : Int} (e : befB x y = true) : befB y x = false := by
  rw [Bool.eq_false_iff, ne_eq, befB_iff]
  rw [befB_iff] at e
  omega
theorem befB_trans {x y z : Int} (e : befB x y = true) (f : befB y z = true) : befB x z = true := by
  rw [befB_iff] at *
  omega

/-- What ShipBefore says. -/
theorem before_law {h : RHarb} (hs : someB h = true) {a b c : Nat} (ha : a < h.letters.length) (hb : b < h.letters.length) (hc : c < h.letters.length) (hab : a ≠ b) :
    (beforeR h a b).2 = 0 ∧ (beforeR h b a).2 = 0 ∧ ((beforeR h a b).1 = 1 → (beforeR h b a).1 = 2) ∧
      ((beforeR h a b).1 = 1 → (beforeR h b c).2 = 0 → (beforeR h b c).1 = 1 → (beforeR h a c).2 = 0 ∧ (beforeR h a c).1 = 1) := by
  rw [beforeR_some hs ha hb hab, beforeR_some hs hb ha (Ne.symm hab)]
  have anti : (∀ t ∈ truthsR h [], ∀ x ∈ rowE h a t, ∀ y ∈ rowE h b t, befB x y = true) → settledR (cnt befP (pairsE h b a)) ((pairsE h b a).length : Int) = 2 := fun q =>
    before_never hs hb ha fun t ht x hx y hy => befB_not (q t ht y hy x hx)
  refine ⟨rfl, rfl, fun q => anti (before_must.1 q), fun q1 q2 q3 => ?_⟩
  have hbc : b ≠ c := fun q => by subst q; rw [beforeR_one hs hb] at q2; cases q2
  rw [beforeR_some hs hb hc hbc] at q3
  have hac : a ≠ c := fun q => by
    subst q
    have := anti (before_must.1 q1)
    simp only at q3
    omega
  rw [beforeR_some hs ha hc hac]
  refine ⟨rfl, before_must.2 fun t ht x hx z hz => ?_⟩
  obtain ⟨y, hy⟩ := rowE_ne ht hb
  exact befB_trans (before_must.1 q1 t ht x hx y hy) (before_must.1 q3 t ht y hy z hz)
end Go.Proofs.Ytnfmmhmfbipkjaa.Abs

namespace Go.Proofs.Ytnfmmhmfbipkjaa.Abs
set_option linter.unusedSimpArgs false
open Go Go.RowKit Go.Proofs

/-- The last day at which a ship calls, in all truths. -/
def hiE (h : RHarb) (port : Int) (s : Nat) : Int := (calledTo h (truthsR h []) s port (truthsR h []).length).1.2
/-- Does a ship that takes a letter surely call? -/
def sureE (h : RHarb) (port day : Int) (s : Nat) : Prop := takesB (h.ships[s]!) port day = true ∧ (calledTo h (truthsR h []) s port (truthsR h []).length).2 = ((truthsR h []).length : Int)

theorem sendTo_law (h : RHarb) (port day : Int) : ∀ n : Nat, ((sendTo h (truthsR h []) port day n).1 = -1 ∧ ∀ s, s < n → ¬ sureE h port day s) ∨
    ∃ o : Nat, o < n ∧ sendTo h (truthsR h []) port day n = ((o : Int), hiE h port o) ∧ sureE h port day o ∧ ∀ s, s < n → sureE h port day s → hiE h port o ≤ hiE h port s ∧ (s < o → hiE h port o < hiE h port s)
  | 0 => .inl ⟨rfl, fun s hs => by omega⟩
  | n + 1 => by
    have ih := sendTo_law h port day n
    have hok : ∀ b : Int × Int, sendOk h (truthsR h []) port day b n = true ↔ sureE h port day n ∧ (b.1 < 0 ∨ hiE h port n < b.2) := fun b => by
      unfold sendOk sureE hiE
      simp only [Bool.and_eq_true, Bool.or_eq_true, decide_eq_true_eq, and_assoc]
    unfold sendTo
    rcases ih with ⟨i1, i2⟩ | ⟨o, ho, i1, i2, i3⟩
    · by_cases q : sendOk h (truthsR h []) port day (sendTo h (truthsR h []) port day n) n = true
      · rw [if_pos q]
        have q1 := ((hok _).1 q).1
        refine .inr ⟨n, by omega, rfl, q1, fun s hs hq => ?_⟩
        by_cases e : s = n
        · subst e; exact ⟨Int.le_refl _, fun w => by omega⟩
        · exact absurd hq (i2 s (by omega))
      · rw [if_neg q]
        refine .inl ⟨i1, fun s hs hq => ?_⟩
        by_cases e : s = n
        · subst e; exact q ((hok _).2 ⟨hq, .inl (by omega)⟩)
        · exact i2 s (by omega) hq
    · by_cases q : sendOk h (truthsR h []) port day (sendTo h (truthsR h []) port day n) n = true
      · rw [if_pos q]
        obtain ⟨q1, q2⟩ := (hok _).1 q
        rw [i1] at q2
        simp only at q2
        refine .inr ⟨n, by omega, rfl, q1, fun s hs hq => ?_⟩
        by_cases e : s = n
        · subst e; exact ⟨Int.le_refl _, fun w => by omega⟩
        · have := i3 s (by omega) hq
          exact ⟨by omega, fun _ => by omega⟩
      · rw [if_neg q]
        refine .inr ⟨o, by omega, i1, i2, fun s hs hq => ?_⟩
        by_cases e : s = n
        · subst e
          have q2 : ¬ (hiE h port s < hiE h port o) := fun w => q ((hok _).2 ⟨hq, .inr (by rw [i1]; exact w)⟩)
          exact ⟨by omega, fun w => by omega⟩
        · exact i3 s (by omega) hq

theorem sendR_some {h : RHarb} (hs : someB h = true) {port day : Int} (hp : 0 ≤ port ∧ port ≤ h.ports - 1) (hd : 0 ≤ day ∧ day ≤ 60) :
    (sendR h port day = (0, 0, 9) ∧ ∀ s, s < h.ships.length → ¬ sureE h port day s) ∨
    ∃ o : Nat, o < h.ships.length ∧ sendR h port day = ((o : Int), hiE h port o, 0) ∧ sureE h port day o ∧ ∀ s, s < h.ships.length → sureE h port day s → hiE h port o ≤ hiE h port s ∧ (s < o → hiE h port o < hiE h port s) := by
  have e : dayE day (indexE (checkH h).2.2 port h.ports) = 0 := day_in (index_in (some_check hs) hp) hd
  have e2 : sendR h port day = if (sendTo h (truthsR h []) port day h.ships.length).1 < 0 then (0, 0, 9) else ((sendTo h (truthsR h []) port day h.ships.length).1, (sendTo h (truthsR h []) port day h.ships.length).2, 0) := by
    unfold sendR
    rw [e, some_known hs, if_pos rfl]
  rcases sendTo_law h port day h.ships.length with ⟨i1, i2⟩ | ⟨o, ho, i1, i2, i3⟩
  · rw [e2, if_pos (by omega)]
    exact .inl ⟨rfl, i2⟩
  · rw [e2, i1]
    simp only
    rw [if_neg (by omega)]
    exact .inr ⟨o, ho, rfl, i2, i3⟩
theorem sendR_some_of {h : RHarb} {port day : Int} (e : (sendR h port day).2.2 = 0) : someB h = true := by
  unfold sendR at e
  split at e
  · rename_i q
    exact (known_some (fun q => (indexE_zero (dayE_zero q).1).1) q).1
  · rename_i q; exact absurd e q

theorem callsR_some {h : RHarb} (hs : someB h = true) {s : Nat} (hl : s < h.ships.length) {port : Int} (hp : 0 ≤ port ∧ port ≤ h.ports - 1) :
    callsR h s port = ((calledTo h (truthsR h []) s port (truthsR h []).length).1, settledR (calledTo h (truthsR h []) s port (truthsR h []).length).2 ((truthsR h []).length : Int), 0) := by
  have e : (callsR h s port).2.2 = 0 := by
    unfold callsR
    simp only
    rw [index_in (some_check hs) ⟨by omega, by omega⟩, index_in (some_check hs) hp, if_pos rfl, some_known hs, if_pos rfl]
  rw [callsR_good e, Int.toNat_natCast]
theorem settled_must {a b : Int} : settledR a b = 1 ↔ a = b := by
  unfold settledR
  constructor
  · intro q
    split at q
    · assumption
    · split at q <;> cases q
  · intro q; rw [if_pos q]

theorem sure_days {h : RHarb} {port day : Int} {s : Nat} (e : sureE h port day s) {t : RTru} (ht : t ∈ truthsR h []) : 0 ≤ dayR h t.fleet s port ∧ dayR h t.fleet s port ≤ hiE h port s := by
  obtain ⟨i, hi, rfl⟩ := List.mem_iff_getElem.1 ht
  have c := called_is h (truthsR h []) s port _ (Nat.le_refl _)
  simp only at c
  obtain ⟨c1, c2, _, c4⟩ := c
  have h1 := c1.1 e.2 i hi
  rw [getD_any hi] at h1
  have h2 : (calledTo h (truthsR h []) s port (truthsR h []).length).2 ≠ 0 := by rw [e.2]; omega
  have h3 := ((c4 h2).1 i hi (by rw [getD_any hi]; exact h1)).2
  rw [getD_any hi] at h3
  exact ⟨h1, h3⟩
end Go.Proofs.Ytnfmmhmfbipkjaa.Abs

namespace Go.Proofs.Ytnfmmhmfbipkjaa.Abs
set_option linter.unusedSimpArgs false
set_option maxHeartbeats 4000000
set_option maxRecDepth 100000
open Go Go.RowKit Go.Proofs

theorem natMod22 (a : Nat) : ((a : Int) % 22) = ((a % 22 : Nat) : Int) := (Int.natCast_emod a 22).symm

theorem shipSent_bad (h : RHarb) (hf : HFit h) (x y z : Nat) (e : ¬ someB h = true) : PCall Try.prog 10 [harbA h, .agg [.int .u8 x, .int .u8 y], .int .u16 z] (.bool true) := by
  intro m
  have a1 := some_c h hf.names
  have a2 := send_top h hf.names 0 0
  have aw := awake_c
  have hne : (sendR h 0 0).2.2 ≠ 0 := fun q => e (sendR_some_of q)
  rw [Bool.not_eq_true] at e
  rw [e] at a1
  generalize sendR h 0 0 = C at *
  simp only [harbA, harbL, ints] at *
  (refine acall_intro (E := envC (modeAt [16, 19] []) false []) (envCOk _ _ _) rfl Try.func10 rfl Try.call10 (by kernel_rfl) (by simp [Try.ntmps10]) ?_; simp only [Try.f10];  simp (maxSteps := 4000000) only [↓VP, VQ, ite_self, Nat.reduceEqDiff, Nat.reduceAdd, Nat.reduceSub, Nat.reduceMul, Nat.reduceLeDiff, Nat.reduceLT, Nat.reduceBEq, Int.reduceLE, Int.reduceLT, Int.reduceNeg, Int.reduceAdd, Int.reduceSub, Int.reduceToNat, ↓reduceIte, reduceCtorEq, ↓ixShip, ↓ixCall, ↓ixLet, ↓ixRep, Int.reduceEq])
  ((refine ACall.pure (a1) ?_; try simp (maxSteps := 4000000) only [↓VP, VQ, ite_self, Nat.reduceEqDiff, Nat.reduceAdd, Nat.reduceSub, Nat.reduceMul, Nat.reduceLeDiff, Nat.reduceLT, Nat.reduceBEq, Int.reduceLE, Int.reduceLT, Int.reduceNeg, Int.reduceAdd, Int.reduceSub, Int.reduceToNat, ↓reduceIte, reduceCtorEq, ↓ixShip, ↓ixCall, ↓ixLet, ↓ixRep]); try simp (maxSteps := 4000000) only [↓VP, VQ, ite_self, Nat.reduceEqDiff, Nat.reduceAdd, Nat.reduceSub, Nat.reduceMul, Nat.reduceLeDiff, Nat.reduceLT, Nat.reduceBEq, Int.reduceLE, Int.reduceLT, Int.reduceNeg, Int.reduceAdd, Int.reduceSub, Int.reduceToNat, ↓reduceIte, reduceCtorEq, ↓ixShip, ↓ixCall, ↓ixLet, ↓ixRep, eq_self, decide_true, decide_false, if_true, if_false, not_true_eq_false, List.append_eq])
  (refine ACall.pure (a2) ?_; try simp (maxSteps := 4000000) only [↓VP, VQ, ite_self, Nat.reduceEqDiff, Nat.reduceAdd, Nat.reduceSub, Nat.reduceMul, Nat.reduceLeDiff, Nat.reduceLT, Nat.reduceBEq, Int.reduceLE, Int.reduceLT, Int.reduceNeg, Int.reduceAdd, Int.reduceSub, Int.reduceToNat, ↓reduceIte, reduceCtorEq, ↓ixShip, ↓ixCall, ↓ixLet, ↓ixRep, eq_self, decide_true, decide_false, if_true, if_false, not_true_eq_false, List.append_eq, hne])
  ((refine ACall.pure (aw) ?_; try simp (maxSteps := 4000000) only [↓VP, VQ, ite_self, Nat.reduceEqDiff, Nat.reduceAdd, Nat.reduceSub, Nat.reduceMul, Nat.reduceLeDiff, Nat.reduceLT, Nat.reduceBEq, Int.reduceLE, Int.reduceLT, Int.reduceNeg, Int.reduceAdd, Int.reduceSub, Int.reduceToNat, ↓reduceIte, reduceCtorEq, ↓ixShip, ↓ixCall, ↓ixLet, ↓ixRep]); try simp (maxSteps := 4000000) only [↓VP, VQ, ite_self, Nat.reduceEqDiff, Nat.reduceAdd, Nat.reduceSub, Nat.reduceMul, Nat.reduceLeDiff, Nat.reduceLT, Nat.reduceBEq, Int.reduceLE, Int.reduceLT, Int.reduceNeg, Int.reduceAdd, Int.reduceSub, Int.reduceToNat, ↓reduceIte, reduceCtorEq, ↓ixShip, ↓ixCall, ↓ixLet, ↓ixRep, eq_self, decide_true, decide_false, if_true, if_false, not_true_eq_false, List.append_eq])

theorem shipSent_ok (h : RHarb) (hf : HFit h) (x y z : Nat) (hx : x < 256) (hy : y < 256) (hz : z < 65536) (hs : someB h = true) : PCall Try.prog 10 [harbA h, .agg [.int .u8 x, .int .u8 y], .int .u16 z] (.bool true) := by
  intro m
  have hh := hok_check (some_check hs)
  have hp := hh.p
  have hn := hh.n
  have a1 := some_c h hf.names
  rw [hs] at a1
  have hA : 0 ≤ (x : Int) % h.ports ∧ (x : Int) % h.ports ≤ h.ports - 1 := ⟨Int.emod_nonneg _ (by omega), by have := Int.emod_lt_of_pos (x : Int) (show 0 < h.ports by omega); omega⟩
  have hB : y % 22 < 22 := Nat.mod_lt _ (by decide)
  have hT0 := List.length_pos_iff.2 (some_truths hs)
  have hC : z % (truthsR h []).length < (truthsR h []).length := Nat.mod_lt _ hT0
  have aw := awake_c
  have mz := natMod z (truthsR h []).length
  generalize hP : (x : Int) % h.ports = p at *
  generalize hD : y % 22 = d at *
  generalize z % (truthsR h []).length = c at *
  have c1 := send_top h hf.names p d
  have c2 := truths_c h hh []
  have htl := truths_len hh []
  have law := sendR_some hs (port := p) (day := (d : Int)) hA ⟨by omega, by omega⟩
  have i1 := in_o (sendR h p d).1 0 ((h.ships.length : Int) - 1)
  have tk := fun s : Nat => reftakes_c (h.ships[s]!) p d
  have hcc : (truthsR h [])[c]! ∈ truthsR h [] := by rw [getD_any hC]; exact List.getElem_mem _
  have hfok := truths_fok hh hcc
  have dy := fun (s : Nat) (q : s < h.ships.length) => refday_c h hh ((truthsR h [])[c]!).fleet s p q (by have := hfok.n; omega) (hfok.late s (by have := hfok.n; omega))
  have hsd := fun (s : Nat) (q : sureE h p d s) => sure_days q hcc
  have cs := fun (s : Nat) (q : s < h.ships.length) => by
    have := callsP_c h hf.names s p hf.ports
    rw [callsR_some hs q hA] at this
    exact this
  have m22 := natMod22 y
  rw [hD] at m22
  have hhi : ∀ s, hiE h p s = (calledTo h (truthsR h []) s p (truthsR h []).length).1.2 := fun s => rfl
  have hsu : ∀ s, sureE h p d s ↔ takesB (h.ships[s]!) p d = true ∧ (calledTo h (truthsR h []) s p (truthsR h []).length).2 = ((truthsR h []).length : Int) := fun s => Iff.rfl
  generalize hT : truthsR h [] = T at *
  rcases law with ⟨e1, law⟩ | ⟨o, ho, e1, sur, law⟩
  · rw [e1] at c1 i1
    simp only [harbA, harbL, ints, trusA, fatesA, List.map_nil, shipA, shipL] at *
    (refine acall_intro (E := envC (modeAt [16, 19] []) false []) (envCOk _ _ _) rfl Try.func10 rfl Try.call10 (by kernel_rfl) (by simp [Try.ntmps10]) ?_; simp only [Try.f10];  simp (maxSteps := 4000000) only [↓VP, VQ, ite_self, Nat.reduceEqDiff, Nat.reduceAdd, Nat.reduceSub, Nat.reduceMul, Nat.reduceLeDiff, Nat.reduceLT, Nat.reduceBEq, Int.reduceLE, Int.reduceLT, Int.reduceNeg, Int.reduceAdd, Int.reduceSub, Int.reduceToNat, ↓reduceIte, reduceCtorEq, ↓ixShip, ↓ixCall, ↓ixLet, ↓ixRep, Int.reduceEq])
    ((refine ACall.pure (a1) ?_; try simp (maxSteps := 4000000) only [↓VP, VQ, ite_self, Nat.reduceEqDiff, Nat.reduceAdd, Nat.reduceSub, Nat.reduceMul, Nat.reduceLeDiff, Nat.reduceLT, Nat.reduceBEq, Int.reduceLE, Int.reduceLT, Int.reduceNeg, Int.reduceAdd, Int.reduceSub, Int.reduceToNat, ↓reduceIte, reduceCtorEq, ↓ixShip, ↓ixCall, ↓ixLet, ↓ixRep]); try simp (maxSteps := 4000000) only [↓VP, VQ, ite_self, Nat.reduceEqDiff, Nat.reduceAdd, Nat.reduceSub, Nat.reduceMul, Nat.reduceLeDiff, Nat.reduceLT, Nat.reduceBEq, Int.reduceLE, Int.reduceLT, Int.reduceNeg, Int.reduceAdd, Int.reduceSub, Int.reduceToNat, ↓reduceIte, reduceCtorEq, ↓ixShip, ↓ixCall, ↓ixLet, ↓ixRep, eq_self, decide_true, decide_false, if_true, if_false, not_true_eq_false, List.append_eq])
    (refine adraw (by first | exact envOk _ | exact envCOk _ _ _) mixed [⟨false, false, 0⟩, ⟨false, false, 0⟩, ⟨false, false, 0⟩, ⟨false, false, 0⟩, ⟨false, false, 0⟩, ⟨false, false, 0⟩, ⟨false, false, 0⟩, ⟨false, false, 0⟩, ⟨false, false, 0⟩, ⟨false, false, 0⟩, ⟨false, false, 0⟩, ⟨false, false, 0⟩] (by kernel_rfl) ?_; show vcOpsD _ _ _ (_ :: _) _ _)
    simp (maxSteps := 4000000) only [↓VP, VQ, ite_self, Nat.reduceEqDiff, Nat.reduceAdd, Nat.reduceSub, Nat.reduceMul, Nat.reduceLeDiff, Nat.reduceLT, Nat.reduceBEq, Int.reduceLE, Int.reduceLT, Int.reduceNeg, Int.reduceAdd, Int.reduceSub, Int.reduceToNat, ↓reduceIte, reduceCtorEq, ↓ixShip, ↓ixCall, ↓ixLet, ↓ixRep, hP, m22]
    repeat' (first | intro _ | refine And.intro ?_ ?_)
    all_goals try (first | omega | (simp only [List.length_map, List.length_cons, List.length_nil, List.length_append, Nat.zero_add]; omega) | exact nnC _ | exact nlC (by decide) _ | exact nbC rfl)
    ((refine ACall.pure (c1) ?_; try simp (maxSteps := 4000000) only [↓VP, VQ, ite_self, Nat.reduceEqDiff, Nat.reduceAdd, Nat.reduceSub, Nat.reduceMul, Nat.reduceLeDiff, Nat.reduceLT, Nat.reduceBEq, Int.reduceLE, Int.reduceLT, Int.reduceNeg, Int.reduceAdd, Int.reduceSub, Int.reduceToNat, ↓reduceIte, reduceCtorEq, ↓ixShip, ↓ixCall, ↓ixLet, ↓ixRep]); try simp (maxSteps := 4000000) only [↓VP, VQ, ite_self, Nat.reduceEqDiff, Nat.reduceAdd, Nat.reduceSub, Nat.reduceMul, Nat.reduceLeDiff, Nat.reduceLT, Nat.reduceBEq, Int.reduceLE, Int.reduceLT, Int.reduceNeg, Int.reduceAdd, Int.reduceSub, Int.reduceToNat, ↓reduceIte, reduceCtorEq, ↓ixShip, ↓ixCall, ↓ixLet, ↓ixRep, eq_self, decide_true, decide_false, if_true, if_false, not_true_eq_false, List.append_eq])
    (refine ACall.pure (c2) ?_; try simp (maxSteps := 4000000) only [↓VP, VQ, ite_self, Nat.reduceEqDiff, Nat.reduceAdd, Nat.reduceSub, Nat.reduceMul, Nat.reduceLeDiff, Nat.reduceLT, Nat.reduceBEq, Int.reduceLE, Int.reduceLT, Int.reduceNeg, Int.reduceAdd, Int.reduceSub, Int.reduceToNat, ↓reduceIte, reduceCtorEq, ↓ixShip, ↓ixCall, ↓ixLet, ↓ixRep, eq_self, decide_true, decide_false, if_true, if_false, not_true_eq_false, List.append_eq, mz, truA, fatesA, byA])
    repeat' (first | intro _ | refine And.intro ?_ ?_)
    all_goals try (first | omega | (simp only [List.length_map, List.length_cons, List.length_nil, List.length_append, Nat.zero_add]; omega) | exact nnC _ | exact nlC (by decide) _ | exact nbC rfl)
    refine aloop (envCOk _ _ _) (fun s : Nat => ⟨[(3, .v (.eptr [.int .i64 h.ports, .int .i64 h.lost, .slice 5 (h.ships.map shipA), .slice 3 (h.letters.map letA), .slice 4 (h.reports.map repA)])), (10, .v (.int .i64 p)), (11, .v (.int .i64 d)), (12, .v (.int .i64 0)), (13, .v (.int .i64 0)), (14, .v (.int .i64 9)), (18, .v (.int .i64 s))], [], [], m⟩)
      (fun s => s ≤ h.ships.length) (fun s => h.ships.length - s) 0 (fun _ => rfl) (by simp) (by (simp only [Fits, fitsV, fitsO, fitsL, ↓upd, ↓lookV, ↓lookO, ↓lookL, Nat.reduceEqDiff, ↓reduceIte, ints, and_true, true_and, Option.some.injEq]); simp) ?_
    intro s hsl
    have law' := law s
    have hsu' := hsu s
    have hhi' := hhi s
    have cs' := cs s
    have tk' := tk s
    generalize calledTo h T s p T.length = cl at *
    simp (maxSteps := 4000000) only [↓VP, VQ, ite_self, Nat.reduceEqDiff, Nat.reduceAdd, Nat.reduceSub, Nat.reduceMul, Nat.reduceLeDiff, Nat.reduceLT, Nat.reduceBEq, Int.reduceLE, Int.reduceLT, Int.reduceNeg, Int.reduceAdd, Int.reduceSub, Int.reduceToNat, ↓reduceIte, reduceCtorEq, ↓ixShip, ↓ixCall, ↓ixLet, ↓ixRep]
    repeat' (first | intro _ | refine And.intro ?_ ?_)
    all_goals try (first | omega | (simp only [List.length_map, List.length_cons, List.length_nil, List.length_append, Nat.zero_add]; omega) | exact nnC _ | exact nlC (by decide) _ | exact nbC rfl)
    · have cs'' := cs' (by omega)
      ((refine ACall.pure (cs'') ?_; try simp (maxSteps := 4000000) only [↓VP, VQ, ite_self, Nat.reduceEqDiff, Nat.reduceAdd, Nat.reduceSub, Nat.reduceMul, Nat.reduceLeDiff, Nat.reduceLT, Nat.reduceBEq, Int.reduceLE, Int.reduceLT, Int.reduceNeg, Int.reduceAdd, Int.reduceSub, Int.reduceToNat, ↓reduceIte, reduceCtorEq, ↓ixShip, ↓ixCall, ↓ixLet, ↓ixRep]); try simp (maxSteps := 4000000) only [↓VP, VQ, ite_self, Nat.reduceEqDiff, Nat.reduceAdd, Nat.reduceSub, Nat.reduceMul, Nat.reduceLeDiff, Nat.reduceLT, Nat.reduceBEq, Int.reduceLE, Int.reduceLT, Int.reduceNeg, Int.reduceAdd, Int.reduceSub, Int.reduceToNat, ↓reduceIte, reduceCtorEq, ↓ixShip, ↓ixCall, ↓ixLet, ↓ixRep, eq_self, decide_true, decide_false, if_true, if_false, not_true_eq_false, List.append_eq])
      repeat' (first | intro _ | refine And.intro ?_ ?_)
      all_goals try (first | omega | (simp only [List.length_map, List.length_cons, List.length_nil, List.length_append, Nat.zero_add]; omega) | exact nnC _ | exact nlC (by decide) _ | exact nbC rfl)
      · ((refine ACall.pure (tk') ?_; try simp (maxSteps := 4000000) only [↓VP, VQ, ite_self, Nat.reduceEqDiff, Nat.reduceAdd, Nat.reduceSub, Nat.reduceMul, Nat.reduceLeDiff, Nat.reduceLT, Nat.reduceBEq, Int.reduceLE, Int.reduceLT, Int.reduceNeg, Int.reduceAdd, Int.reduceSub, Int.reduceToNat, ↓reduceIte, reduceCtorEq, ↓ixShip, ↓ixCall, ↓ixLet, ↓ixRep]); try simp (maxSteps := 4000000) only [↓VP, VQ, ite_self, Nat.reduceEqDiff, Nat.reduceAdd, Nat.reduceSub, Nat.reduceMul, Nat.reduceLeDiff, Nat.reduceLT, Nat.reduceBEq, Int.reduceLE, Int.reduceLT, Int.reduceNeg, Int.reduceAdd, Int.reduceSub, Int.reduceToNat, ↓reduceIte, reduceCtorEq, ↓ixShip, ↓ixCall, ↓ixLet, ↓ixRep, eq_self, decide_true, decide_false, if_true, if_false, not_true_eq_false, List.append_eq])
        repeat' (first | intro _ | refine And.intro ?_ ?_)
        all_goals try (first | omega | (simp only [List.length_map, List.length_cons, List.length_nil, List.length_append, Nat.zero_add]; omega) | exact nnC _ | exact nlC (by decide) _ | exact nbC rfl)
        all_goals first
          | (exfalso; exact law' (by omega) (hsu'.2 ⟨by assumption, settled_must.1 (by assumption)⟩))
          | ((refine ⟨s + 1, by first | omega | (dsimp only; omega), by dsimp only; omega, ?_⟩; (simp only [Fits, fitsV, fitsO, fitsL, ↓upd, ↓lookV, ↓lookO, ↓lookL, Nat.reduceEqDiff, ↓reduceIte, ints, and_true, true_and, Option.some.injEq]); try simp []))
      · (refine ⟨s + 1, by first | omega | (dsimp only; omega), by dsimp only; omega, ?_⟩; (simp only [Fits, fitsV, fitsO, fitsL, ↓upd, ↓lookV, ↓lookO, ↓lookL, Nat.reduceEqDiff, ↓reduceIte, ints, and_true, true_and, Option.some.injEq]); try simp [])
    · ((refine ACall.pure (aw) ?_; try simp (maxSteps := 4000000) only [↓VP, VQ, ite_self, Nat.reduceEqDiff, Nat.reduceAdd, Nat.reduceSub, Nat.reduceMul, Nat.reduceLeDiff, Nat.reduceLT, Nat.reduceBEq, Int.reduceLE, Int.reduceLT, Int.reduceNeg, Int.reduceAdd, Int.reduceSub, Int.reduceToNat, ↓reduceIte, reduceCtorEq, ↓ixShip, ↓ixCall, ↓ixLet, ↓ixRep]); try simp (maxSteps := 4000000) only [↓VP, VQ, ite_self, Nat.reduceEqDiff, Nat.reduceAdd, Nat.reduceSub, Nat.reduceMul, Nat.reduceLeDiff, Nat.reduceLT, Nat.reduceBEq, Int.reduceLE, Int.reduceLT, Int.reduceNeg, Int.reduceAdd, Int.reduceSub, Int.reduceToNat, ↓reduceIte, reduceCtorEq, ↓ixShip, ↓ixCall, ↓ixLet, ↓ixRep, eq_self, decide_true, decide_false, if_true, if_false, not_true_eq_false, List.append_eq])
  · have hof : offP 0 ((h.ships.length : Int) - 1) o = false := offP_false.2 ⟨by omega, by omega⟩
    rw [e1] at c1 i1
    simp only [hof] at i1
    have dyo := dy o ho
    have hso := hsd o sur
    have tko := tk o
    rw [sur.1] at tko
    simp only [harbA, harbL, ints, trusA, fatesA, List.map_nil, shipA, shipL] at *
    (refine acall_intro (E := envC (modeAt [16, 19] []) false []) (envCOk _ _ _) rfl Try.func10 rfl Try.call10 (by kernel_rfl) (by simp [Try.ntmps10]) ?_; simp only [Try.f10];  simp (maxSteps := 4000000) only [↓VP, VQ, ite_self, Nat.reduceEqDiff, Nat.reduceAdd, Nat.reduceSub, Nat.reduceMul, Nat.reduceLeDiff, Nat.reduceLT, Nat.reduceBEq, Int.reduceLE, Int.reduceLT, Int.reduceNeg, Int.reduceAdd, Int.reduceSub, Int.reduceToNat, ↓reduceIte, reduceCtorEq, ↓ixShip, ↓ixCall, ↓ixLet, ↓ixRep, Int.reduceEq])
    ((refine ACall.pure (a1) ?_; try simp (maxSteps := 4000000) only [↓VP, VQ, ite_self, Nat.reduceEqDiff, Nat.reduceAdd, Nat.reduceSub, Nat.reduceMul, Nat.reduceLeDiff, Nat.reduceLT, Nat.reduceBEq, Int.reduceLE, Int.reduceLT, Int.reduceNeg, Int.reduceAdd, Int.reduceSub, Int.reduceToNat, ↓reduceIte, reduceCtorEq, ↓ixShip, ↓ixCall, ↓ixLet, ↓ixRep]); try simp (maxSteps := 4000000) only [↓VP, VQ, ite_self, Nat.reduceEqDiff, Nat.reduceAdd, Nat.reduceSub, Nat.reduceMul, Nat.reduceLeDiff, Nat.reduceLT, Nat.reduceBEq, Int.reduceLE, Int.reduceLT, Int.reduceNeg, Int.reduceAdd, Int.reduceSub, Int.reduceToNat, ↓reduceIte, reduceCtorEq, ↓ixShip, ↓ixCall, ↓ixLet, ↓ixRep, eq_self, decide_true, decide_false, if_true, if_false, not_true_eq_false, List.append_eq])
    (refine adraw (by first | exact envOk _ | exact envCOk _ _ _) mixed [⟨false, false, 0⟩, ⟨false, false, 0⟩, ⟨false, false, 0⟩, ⟨false, false, 0⟩, ⟨false, false, 0⟩, ⟨false, false, 0⟩, ⟨false, false, 0⟩, ⟨false, false, 0⟩, ⟨false, false, 0⟩, ⟨false, false, 0⟩, ⟨false, false, 0⟩, ⟨false, false, 0⟩] (by kernel_rfl) ?_; show vcOpsD _ _ _ (_ :: _) _ _)
    simp (maxSteps := 4000000) only [↓VP, VQ, ite_self, Nat.reduceEqDiff, Nat.reduceAdd, Nat.reduceSub, Nat.reduceMul, Nat.reduceLeDiff, Nat.reduceLT, Nat.reduceBEq, Int.reduceLE, Int.reduceLT, Int.reduceNeg, Int.reduceAdd, Int.reduceSub, Int.reduceToNat, ↓reduceIte, reduceCtorEq, ↓ixShip, ↓ixCall, ↓ixLet, ↓ixRep, hP, m22]
    repeat' (first | intro _ | refine And.intro ?_ ?_)
    all_goals try (first | omega | (simp only [List.length_map, List.length_cons, List.length_nil, List.length_append, Nat.zero_add]; omega) | exact nnC _ | exact nlC (by decide) _ | exact nbC rfl)
    ((refine ACall.pure (c1) ?_; try simp (maxSteps := 4000000) only [↓VP, VQ, ite_self, Nat.reduceEqDiff, Nat.reduceAdd, Nat.reduceSub, Nat.reduceMul, Nat.reduceLeDiff, Nat.reduceLT, Nat.reduceBEq, Int.reduceLE, Int.reduceLT, Int.reduceNeg, Int.reduceAdd, Int.reduceSub, Int.reduceToNat, ↓reduceIte, reduceCtorEq, ↓ixShip, ↓ixCall, ↓ixLet, ↓ixRep]); try simp (maxSteps := 4000000) only [↓VP, VQ, ite_self, Nat.reduceEqDiff, Nat.reduceAdd, Nat.reduceSub, Nat.reduceMul, Nat.reduceLeDiff, Nat.reduceLT, Nat.reduceBEq, Int.reduceLE, Int.reduceLT, Int.reduceNeg, Int.reduceAdd, Int.reduceSub, Int.reduceToNat, ↓reduceIte, reduceCtorEq, ↓ixShip, ↓ixCall, ↓ixLet, ↓ixRep, eq_self, decide_true, decide_false, if_true, if_false, not_true_eq_false, List.append_eq])
    (refine ACall.pure (c2) ?_; try simp (maxSteps := 4000000) only [↓VP, VQ, ite_self, Nat.reduceEqDiff, Nat.reduceAdd, Nat.reduceSub, Nat.reduceMul, Nat.reduceLeDiff, Nat.reduceLT, Nat.reduceBEq, Int.reduceLE, Int.reduceLT, Int.reduceNeg, Int.reduceAdd, Int.reduceSub, Int.reduceToNat, ↓reduceIte, reduceCtorEq, ↓ixShip, ↓ixCall, ↓ixLet, ↓ixRep, eq_self, decide_true, decide_false, if_true, if_false, not_true_eq_false, List.append_eq, mz, truA, fatesA, byA])
    repeat' (first | intro _ | refine And.intro ?_ ?_)
    all_goals try (first | omega | (simp only [List.length_map, List.length_cons, List.length_nil, List.length_append, Nat.zero_add]; omega) | exact nnC _ | exact nlC (by decide) _ | exact nbC rfl)
    ((refine ACall.pure (i1) ?_; try simp (maxSteps := 4000000) only [↓VP, VQ, ite_self, Nat.reduceEqDiff, Nat.reduceAdd, Nat.reduceSub, Nat.reduceMul, Nat.reduceLeDiff, Nat.reduceLT, Nat.reduceBEq, Int.reduceLE, Int.reduceLT, Int.reduceNeg, Int.reduceAdd, Int.reduceSub, Int.reduceToNat, ↓reduceIte, reduceCtorEq, ↓ixShip, ↓ixCall, ↓ixLet, ↓ixRep]); try simp (maxSteps := 4000000) only [↓VP, VQ, ite_self, Nat.reduceEqDiff, Nat.reduceAdd, Nat.reduceSub, Nat.reduceMul, Nat.reduceLeDiff, Nat.reduceLT, Nat.reduceBEq, Int.reduceLE, Int.reduceLT, Int.reduceNeg, Int.reduceAdd, Int.reduceSub, Int.reduceToNat, ↓reduceIte, reduceCtorEq, ↓ixShip, ↓ixCall, ↓ixLet, ↓ixRep, eq_self, decide_true, decide_false, if_true, if_false, not_true_eq_false, List.append_eq])
    repeat' (first | intro _ | refine And.intro ?_ ?_)
    all_goals try (first | omega | (simp only [List.length_map, List.length_cons, List.length_nil, List.length_append, Nat.zero_add]; omega) | exact nnC _ | exact nlC (by decide) _ | exact nbC rfl)
    ((refine ACall.pure (tko) ?_; try simp (maxSteps := 4000000) only [↓VP, VQ, ite_self, Nat.reduceEqDiff, Nat.reduceAdd, Nat.reduceSub, Nat.reduceMul, Nat.reduceLeDiff, Nat.reduceLT, Nat.reduceBEq, Int.reduceLE, Int.reduceLT, Int.reduceNeg, Int.reduceAdd, Int.reduceSub, Int.reduceToNat, ↓reduceIte, reduceCtorEq, ↓ixShip, ↓ixCall, ↓ixLet, ↓ixRep]); try simp (maxSteps := 4000000) only [↓VP, VQ, ite_self, Nat.reduceEqDiff, Nat.reduceAdd, Nat.reduceSub, Nat.reduceMul, Nat.reduceLeDiff, Nat.reduceLT, Nat.reduceBEq, Int.reduceLE, Int.reduceLT, Int.reduceNeg, Int.reduceAdd, Int.reduceSub, Int.reduceToNat, ↓reduceIte, reduceCtorEq, ↓ixShip, ↓ixCall, ↓ixLet, ↓ixRep, eq_self, decide_true, decide_false, if_true, if_false, not_true_eq_false, List.append_eq])
    repeat' (first | intro _ | refine And.intro ?_ ?_)
    all_goals try (first | omega | (simp only [List.length_map, List.length_cons, List.length_nil, List.length_append, Nat.zero_add]; omega) | exact nnC _ | exact nlC (by decide) _ | exact nbC rfl)
    ((refine ACall.pure (dyo) ?_; try simp (maxSteps := 4000000) only [↓VP, VQ, ite_self, Nat.reduceEqDiff, Nat.reduceAdd, Nat.reduceSub, Nat.reduceMul, Nat.reduceLeDiff, Nat.reduceLT, Nat.reduceBEq, Int.reduceLE, Int.reduceLT, Int.reduceNeg, Int.reduceAdd, Int.reduceSub, Int.reduceToNat, ↓reduceIte, reduceCtorEq, ↓ixShip, ↓ixCall, ↓ixLet, ↓ixRep]); try simp (maxSteps := 4000000) only [↓VP, VQ, ite_self, Nat.reduceEqDiff, Nat.reduceAdd, Nat.reduceSub, Nat.reduceMul, Nat.reduceLeDiff, Nat.reduceLT, Nat.reduceBEq, Int.reduceLE, Int.reduceLT, Int.reduceNeg, Int.reduceAdd, Int.reduceSub, Int.reduceToNat, ↓reduceIte, reduceCtorEq, ↓ixShip, ↓ixCall, ↓ixLet, ↓ixRep, eq_self, decide_true, decide_false, if_true, if_false, not_true_eq_false, List.append_eq])
    repeat' (first | intro _ | refine And.intro ?_ ?_)
    all_goals try (first | omega | (simp only [List.length_map, List.length_cons, List.length_nil, List.length_append, Nat.zero_add]; omega) | exact nnC _ | exact nlC (by decide) _ | exact nbC rfl)
    refine aloop (envCOk _ _ _) (fun s : Nat => ⟨[(3, .v (.eptr [.int .i64 h.ports, .int .i64 h.lost, .slice 5 (h.ships.map shipA), .slice 3 (h.letters.map letA), .slice 4 (h.reports.map repA)])), (10, .v (.int .i64 p)), (11, .v (.int .i64 d)), (12, .v (.int .i64 o)), (13, .v (.int .i64 (hiE h p o))), (14, .v (.int .i64 0)), (18, .v (.int .i64 s))], [], [], m⟩)
      (fun s => s ≤ h.ships.length) (fun s => h.ships.length - s) 0 (fun _ => rfl) (by simp) (by (simp only [Fits, fitsV, fitsO, fitsL, ↓upd, ↓lookV, ↓lookO, ↓lookL, Nat.reduceEqDiff, ↓reduceIte, ints, and_true, true_and, Option.some.injEq]); simp) ?_
    intro s hsl
    have law' := law s
    have hsu' := hsu s
    have hhi' := hhi s
    have cs' := cs s
    have tk' := tk s
    generalize calledTo h T s p T.length = cl at *
    simp (maxSteps := 4000000) only [↓VP, VQ, ite_self, Nat.reduceEqDiff, Nat.reduceAdd, Nat.reduceSub, Nat.reduceMul, Nat.reduceLeDiff, Nat.reduceLT, Nat.reduceBEq, Int.reduceLE, Int.reduceLT, Int.reduceNeg, Int.reduceAdd, Int.reduceSub, Int.reduceToNat, ↓reduceIte, reduceCtorEq, ↓ixShip, ↓ixCall, ↓ixLet, ↓ixRep]
    repeat' (first | intro _ | refine And.intro ?_ ?_)
    all_goals try (first | omega | (simp only [List.length_map, List.length_cons, List.length_nil, List.length_append, Nat.zero_add]; omega) | exact nnC _ | exact nlC (by decide) _ | exact nbC rfl)
    · have cs'' := cs' (by omega)
      ((refine ACall.pure (cs'') ?_; try simp (maxSteps := 4000000) only [↓VP, VQ, ite_self, Nat.reduceEqDiff, Nat.reduceAdd, Nat.reduceSub, Nat.reduceMul, Nat.reduceLeDiff, Nat.reduceLT, Nat.reduceBEq, Int.reduceLE, Int.reduceLT, Int.reduceNeg, Int.reduceAdd, Int.reduceSub, Int.reduceToNat, ↓reduceIte, reduceCtorEq, ↓ixShip, ↓ixCall, ↓ixLet, ↓ixRep]); try simp (maxSteps := 4000000) only [↓VP, VQ, ite_self, Nat.reduceEqDiff, Nat.reduceAdd, Nat.reduceSub, Nat.reduceMul, Nat.reduceLeDiff, Nat.reduceLT, Nat.reduceBEq, Int.reduceLE, Int.reduceLT, Int.reduceNeg, Int.reduceAdd, Int.reduceSub, Int.reduceToNat, ↓reduceIte, reduceCtorEq, ↓ixShip, ↓ixCall, ↓ixLet, ↓ixRep, eq_self, decide_true, decide_false, if_true, if_false, not_true_eq_false, List.append_eq])
      repeat' (first | intro _ | refine And.intro ?_ ?_)
      all_goals try (first | omega | (simp only [List.length_map, List.length_cons, List.length_nil, List.length_append, Nat.zero_add]; omega) | exact nnC _ | exact nlC (by decide) _ | exact nbC rfl)
      · ((refine ACall.pure (tk') ?_; try simp (maxSteps := 4000000) only [↓VP, VQ, ite_self, Nat.reduceEqDiff, Nat.reduceAdd, Nat.reduceSub, Nat.reduceMul, Nat.reduceLeDiff, Nat.reduceLT, Nat.reduceBEq, Int.reduceLE, Int.reduceLT, Int.reduceNeg, Int.reduceAdd, Int.reduceSub, Int.reduceToNat, ↓reduceIte, reduceCtorEq, ↓ixShip, ↓ixCall, ↓ixLet, ↓ixRep]); try simp (maxSteps := 4000000) only [↓VP, VQ, ite_self, Nat.reduceEqDiff, Nat.reduceAdd, Nat.reduceSub, Nat.reduceMul, Nat.reduceLeDiff, Nat.reduceLT, Nat.reduceBEq, Int.reduceLE, Int.reduceLT, Int.reduceNeg, Int.reduceAdd, Int.reduceSub, Int.reduceToNat, ↓reduceIte, reduceCtorEq, ↓ixShip, ↓ixCall, ↓ixLet, ↓ixRep, eq_self, decide_true, decide_false, if_true, if_false, not_true_eq_false, List.append_eq])
        repeat' (first | intro _ | refine And.intro ?_ ?_)
        all_goals try (first | omega | (simp only [List.length_map, List.length_cons, List.length_nil, List.length_append, Nat.zero_add]; omega) | exact nnC _ | exact nlC (by decide) _ | exact nbC rfl)
        all_goals first
          | (exfalso; have := law' (by omega) (hsu'.2 ⟨by assumption, settled_must.1 (by assumption)⟩); omega)
          | ((refine ⟨s + 1, by first | omega | (dsimp only; omega), by dsimp only; omega, ?_⟩; (simp only [Fits, fitsV, fitsO, fitsL, ↓upd, ↓lookV, ↓lookO, ↓lookL, Nat.reduceEqDiff, ↓reduceIte, ints, and_true, true_and, Option.some.injEq]); try simp []))
      · (refine ⟨s + 1, by first | omega | (dsimp only; omega), by dsimp only; omega, ?_⟩; (simp only [Fits, fitsV, fitsO, fitsL, ↓upd, ↓lookV, ↓lookO, ↓lookL, Nat.reduceEqDiff, ↓reduceIte, ints, and_true, true_and, Option.some.injEq]); try simp [])
    · ((refine ACall.pure (aw) ?_; try simp (maxSteps := 4000000) only [↓VP, VQ, ite_self, Nat.reduceEqDiff, Nat.reduceAdd, Nat.reduceSub, Nat.reduceMul, Nat.reduceLeDiff, Nat.reduceLT, Nat.reduceBEq, Int.reduceLE, Int.reduceLT, Int.reduceNeg, Int.reduceAdd, Int.reduceSub, Int.reduceToNat, ↓reduceIte, reduceCtorEq, ↓ixShip, ↓ixCall, ↓ixLet, ↓ixRep]); try simp (maxSteps := 4000000) only [↓VP, VQ, ite_self, Nat.reduceEqDiff, Nat.reduceAdd, Nat.reduceSub, Nat.reduceMul, Nat.reduceLeDiff, Nat.reduceLT, Nat.reduceBEq, Int.reduceLE, Int.reduceLT, Int.reduceNeg, Int.reduceAdd, Int.reduceSub, Int.reduceToNat, ↓reduceIte, reduceCtorEq, ↓ixShip, ↓ixCall, ↓ixLet, ↓ixRep, eq_self, decide_true, decide_false, if_true, if_false, not_true_eq_false, List.append_eq])

theorem shipSent_c (h : RHarb) (hf : HFit h) (x y z : Nat) (hx : x < 256) (hy : y < 256) (hz : z < 65536) : PCall Try.prog 10 [harbA h, .agg [.int .u8 x, .int .u8 y], .int .u16 z] (.bool true) := by
  by_cases e : someB h = true
  · exact shipSent_ok h hf x y z hx hy hz e
  · exact shipSent_bad h hf x y z e
end Go.Proofs.Ytnfmmhmfbipkjaa.Abs

namespace Go.Proofs.Ytnfmmhmfbipkjaa.Abs
set_option linter.unusedSimpArgs false
open Go Go.RowKit Go.Proofs
set_option maxRecDepth 100000

theorem wf_u16 {n : Int} (h : (Lit.int .u16 n).wf = true) : ∃ k : Nat, n = k ∧ k < 65536 := by
  have := bounds_u16 h
  exact ⟨n.toNat, by omega, by omega⟩
theorem open_u16 {l : List AV} (h : GoodT Try.prog 51 l) : ∃ n : Nat, n < 65536 ∧ packT Try.prog 51 l = .int .u16 n := by
  obtain ⟨n, _, h2, h3⟩ := h.int_inv Try.underlying51
  obtain ⟨k, rfl, hk⟩ := wf_u16 h3
  exact ⟨k, hk, h2⟩
theorem plain51 : (Try.prog.readableRec 51 = true ∧ 51 < Try.prog.types.size) ∧ plainT Try.prog 7 51 = true := ⟨⟨by kernel_rfl, of_decide_eq_true (by kernel_rfl)⟩, by kernel_rfl⟩
end Go.Proofs.Ytnfmmhmfbipkjaa.Abs

namespace Go.Proofs.Ytnfmmhmfbipkjaa
set_option linter.unusedSimpArgs false
open Go Go.RowKit Go.Proofs Abs
set_option maxRecDepth 100000

theorem shipSent_types : LawTypes Try.prog Try.f10 [26, 72, 51] 4 7 := by
  refine ⟨by rw [Try.params10], by kernel_rfl, Try.underlying4, laid_ok, fun t h => ?_⟩
  simp only [List.mem_cons, List.not_mem_nil, or_false] at h
  rcases h with rfl | rfl | rfl
  · exact plain26
  · exact plain72
  · exact plain51

theorem shipSent_all (xs : List AV) (h : GoodAll Try.prog [26, 72, 51] xs) : ∃ K : AV → Mem → Prop, ACall Try.prog 10 xs (fun _ => .none) K ∧ ∀ r m, K r m → r = .bool true := by
  match xs, h with
  | [a0, a1, a2], ⟨⟨l0, g0, h0⟩, ⟨l1, g1, h1⟩, ⟨l2, g2, h2⟩, _⟩ =>
    obtain ⟨h, hh, e0⟩ := open_harbour g0
    obtain ⟨x, y, hx, hy, e1⟩ := open_b2 g1
    obtain ⟨z, hz, e2⟩ := open_u16 g2
    rw [h0, e0, h1, e1, h2, e2]
    exact ⟨_, shipSent_c h hh x y z hx hy hz _, fun r m h => h.1⟩

theorem shipSent_lifted (os : Os) (started : os.Started) (H : Type) (enc : TypeId × Value → H) :
    ReturnsInHanded {} Try.checked os 10 .any (Rows.shipSentSpec.pre6 enc Try.prog Try.f10 Rows.shipSentRow.domain false) (Rows.shipSentSpec.post enc Try.prog Try.f10 false true false false) := by
  refine returnsInHanded_of_change (C := Try.checked) own_ok started (by kernel_rfl) Try.func10
    (ChangeSpec.witness6 (enc := enc) (C := Try.checked) false ⟨#[], #[.agg #[.int .i64 0, .int .i64 0, .slice .none 0 0, .slice .none 0 0, .slice .none 0 0], .agg #[.int .u8 0, .int .u8 0], .int .u16 0], []⟩ 8 (by kernel_rfl) (by kernel_rfl) (by kernel_rfl) (by kernel_rfl)) ?_
  intro W base args ds gs before hval hW _ _
  refine law_contract shipSent_types rfl (fun ds hds => ?_) shipSent_all W base args ds gs before hval hW
  match ds, hds with
  | [d0, d1, d2], _ => rfl

theorem shipSent_holds : Rows.ShipSentSaid :=
  OpenClaim.holds_of_wide 10 Try.f10 rfl rfl rfl rfl rfl rfl rfl ⟨rfl, rfl, rfl, rfl, rfl⟩ rfl rfl rfl rfl rfl (by kernel_rfl) Try.func10 (by kernel_rfl)
    (of_decide_eq_true (by kernel_rfl)) (by unfold Func.isWrapper; first | (rw [if_pos (by decide +kernel)]; kernel_rfl) | (rw [if_neg (by decide +kernel)]; exact ⟨rfl, rfl⟩))
    (fun os started H enc _ => shipSent_lifted os started H enc)
end Go.Proofs.Ytnfmmhmfbipkjaa
