/- The statement ShipFewer: for any harbour and number the law returns true. Conditions: none. -/
import Derived.Test.YtnfmmhmfbipkjaaQ3
import Derived.Test.YtnfmmhmfbipkjaaQ12
namespace Go.Proofs.Ytnfmmhmfbipkjaa.Abs
set_option linter.unusedSimpArgs false
open Go Go.RowKit

section
variable {E : Env} {st : St} {n : Nat}

theorem ALoop.freeze (i : Nat) {body : Code} {K : Exit → St → Prop} (h : ALoop E n body K (st.freeze i) .mk) : ALoop E n body K st .mk := by
  refine ⟨fun hc r hr G w a hi ⟨β, R, hf⟩ hs => ?_⟩
  obtain ⟨G', R', x, i', f'⟩ := freeze_sound hi hf i
  refine wpIn_mono (h.does hc r hr G' w a i' ⟨β, R', f'⟩ hs) fun e a' w' q => ?_
  obtain ⟨G2, st2, x2, q⟩ := q
  exact ⟨G2, st2, x.toL.trans x2, q⟩
end
end Go.Proofs.Ytnfmmhmfbipkjaa.Abs

namespace Go.Proofs.Ytnfmmhmfbipkjaa.Abs
set_option linter.unusedSimpArgs false
set_option maxHeartbeats 4000000
set_option maxRecDepth 100000
open Go Go.RowKit Go.Proofs

def validB (h : RHarb) : Bool := decide ((checkH h).2.2 = 0)
def someB (h : RHarb) : Bool := validB h && okT h []

theorem valid_c (h : RHarb) (hs : hnamesFit h) : PCall Try.prog 36 [harbA h] (.bool (validB h)) := by
  intro m
  have a1 := refcheck_c h hs
  unfold validB
  generalize checkH h = C at *
  simp only [harbA, harbL] at *
  (refine acall_intro (E := envC (modeAt [] []) false []) (envCOk _ _ _) rfl Try.func36 rfl Try.call36 (by kernel_rfl) (by simp [Try.ntmps36]) ?_; simp only [Try.f36];  simp (maxSteps := 4000000) only [↓VP, VQ, ite_self, Nat.reduceEqDiff, Nat.reduceAdd, Nat.reduceSub, Nat.reduceMul, Nat.reduceLeDiff, Nat.reduceLT, Nat.reduceBEq, Int.reduceLE, Int.reduceLT, Int.reduceNeg, Int.reduceAdd, Int.reduceSub, Int.reduceToNat, ↓reduceIte, reduceCtorEq, ↓ixShip, ↓ixCall, ↓ixLet, ↓ixRep, Int.reduceEq])
  ((refine ACall.pure (a1) ?_; try simp (maxSteps := 4000000) only [↓VP, VQ, ite_self, Nat.reduceEqDiff, Nat.reduceAdd, Nat.reduceSub, Nat.reduceMul, Nat.reduceLeDiff, Nat.reduceLT, Nat.reduceBEq, Int.reduceLE, Int.reduceLT, Int.reduceNeg, Int.reduceAdd, Int.reduceSub, Int.reduceToNat, ↓reduceIte, reduceCtorEq, ↓ixShip, ↓ixCall, ↓ixLet, ↓ixRep]); try simp (maxSteps := 4000000) only [↓VP, VQ, ite_self, Nat.reduceEqDiff, Nat.reduceAdd, Nat.reduceSub, Nat.reduceMul, Nat.reduceLeDiff, Nat.reduceLT, Nat.reduceBEq, Int.reduceLE, Int.reduceLT, Int.reduceNeg, Int.reduceAdd, Int.reduceSub, Int.reduceToNat, ↓reduceIte, reduceCtorEq, ↓ixShip, ↓ixCall, ↓ixLet, ↓ixRep, eq_self, decide_true, decide_false, if_true, if_false, not_true_eq_false, List.append_eq])

theorem some_c (h : RHarb) (hs : hnamesFit h) : PCall Try.prog 46 [harbA h] (.bool (someB h)) := by
  intro m
  have a1 := valid_c h hs
  by_cases q : (checkH h).2.2 = 0
  · have hv : validB h = true := by unfold validB; exact decide_eq_true q
    have a2 := truths_c h (hok_check q) []
    unfold someB okT
    rw [hv] at a1 ⊢
    unfold trusA at a2
    generalize truthsR h [] = T at *
    simp only [harbA, harbL, ints, List.map_nil] at *
    (refine acall_intro (E := envC (modeAt [] []) false []) (envCOk _ _ _) rfl Try.func46 rfl Try.call46 (by kernel_rfl) (by simp [Try.ntmps46]) ?_; simp only [Try.f46];  simp (maxSteps := 4000000) only [↓VP, VQ, ite_self, Nat.reduceEqDiff, Nat.reduceAdd, Nat.reduceSub, Nat.reduceMul, Nat.reduceLeDiff, Nat.reduceLT, Nat.reduceBEq, Int.reduceLE, Int.reduceLT, Int.reduceNeg, Int.reduceAdd, Int.reduceSub, Int.reduceToNat, ↓reduceIte, reduceCtorEq, ↓ixShip, ↓ixCall, ↓ixLet, ↓ixRep, Int.reduceEq])
    ((refine ACall.pure (a1) ?_; try simp (maxSteps := 4000000) only [↓VP, VQ, ite_self, Nat.reduceEqDiff, Nat.reduceAdd, Nat.reduceSub, Nat.reduceMul, Nat.reduceLeDiff, Nat.reduceLT, Nat.reduceBEq, Int.reduceLE, Int.reduceLT, Int.reduceNeg, Int.reduceAdd, Int.reduceSub, Int.reduceToNat, ↓reduceIte, reduceCtorEq, ↓ixShip, ↓ixCall, ↓ixLet, ↓ixRep]); try simp (maxSteps := 4000000) only [↓VP, VQ, ite_self, Nat.reduceEqDiff, Nat.reduceAdd, Nat.reduceSub, Nat.reduceMul, Nat.reduceLeDiff, Nat.reduceLT, Nat.reduceBEq, Int.reduceLE, Int.reduceLT, Int.reduceNeg, Int.reduceAdd, Int.reduceSub, Int.reduceToNat, ↓reduceIte, reduceCtorEq, ↓ixShip, ↓ixCall, ↓ixLet, ↓ixRep, eq_self, decide_true, decide_false, if_true, if_false, not_true_eq_false, List.append_eq])
    ((refine ACall.pure (a2) ?_; try simp (maxSteps := 4000000) only [↓VP, VQ, ite_self, Nat.reduceEqDiff, Nat.reduceAdd, Nat.reduceSub, Nat.reduceMul, Nat.reduceLeDiff, Nat.reduceLT, Nat.reduceBEq, Int.reduceLE, Int.reduceLT, Int.reduceNeg, Int.reduceAdd, Int.reduceSub, Int.reduceToNat, ↓reduceIte, reduceCtorEq, ↓ixShip, ↓ixCall, ↓ixLet, ↓ixRep]); try simp (maxSteps := 4000000) only [↓VP, VQ, ite_self, Nat.reduceEqDiff, Nat.reduceAdd, Nat.reduceSub, Nat.reduceMul, Nat.reduceLeDiff, Nat.reduceLT, Nat.reduceBEq, Int.reduceLE, Int.reduceLT, Int.reduceNeg, Int.reduceAdd, Int.reduceSub, Int.reduceToNat, ↓reduceIte, reduceCtorEq, ↓ixShip, ↓ixCall, ↓ixLet, ↓ixRep, eq_self, decide_true, decide_false, if_true, if_false, not_true_eq_false, List.append_eq])
    intro _
    congr 1
    exact decide_eq_decide.2 (by omega)
  · have hv : validB h = false := by unfold validB; exact decide_eq_false q
    unfold someB
    rw [hv] at a1 ⊢
    simp only [harbA, harbL] at *
    (refine acall_intro (E := envC (modeAt [] []) false []) (envCOk _ _ _) rfl Try.func46 rfl Try.call46 (by kernel_rfl) (by simp [Try.ntmps46]) ?_; simp only [Try.f46];  simp (maxSteps := 4000000) only [↓VP, VQ, ite_self, Nat.reduceEqDiff, Nat.reduceAdd, Nat.reduceSub, Nat.reduceMul, Nat.reduceLeDiff, Nat.reduceLT, Nat.reduceBEq, Int.reduceLE, Int.reduceLT, Int.reduceNeg, Int.reduceAdd, Int.reduceSub, Int.reduceToNat, ↓reduceIte, reduceCtorEq, ↓ixShip, ↓ixCall, ↓ixLet, ↓ixRep, Int.reduceEq])
    ((refine ACall.pure (a1) ?_; try simp (maxSteps := 4000000) only [↓VP, VQ, ite_self, Nat.reduceEqDiff, Nat.reduceAdd, Nat.reduceSub, Nat.reduceMul, Nat.reduceLeDiff, Nat.reduceLT, Nat.reduceBEq, Int.reduceLE, Int.reduceLT, Int.reduceNeg, Int.reduceAdd, Int.reduceSub, Int.reduceToNat, ↓reduceIte, reduceCtorEq, ↓ixShip, ↓ixCall, ↓ixLet, ↓ixRep]); try simp (maxSteps := 4000000) only [↓VP, VQ, ite_self, Nat.reduceEqDiff, Nat.reduceAdd, Nat.reduceSub, Nat.reduceMul, Nat.reduceLeDiff, Nat.reduceLT, Nat.reduceBEq, Int.reduceLE, Int.reduceLT, Int.reduceNeg, Int.reduceAdd, Int.reduceSub, Int.reduceToNat, ↓reduceIte, reduceCtorEq, ↓ixShip, ↓ixCall, ↓ixLet, ↓ixRep, eq_self, decide_true, decide_false, if_true, if_false, not_true_eq_false, List.append_eq])
end Go.Proofs.Ytnfmmhmfbipkjaa.Abs

namespace Go.Proofs.Ytnfmmhmfbipkjaa.Abs
set_option linter.unusedSimpArgs false
open Go Go.RowKit Go.Proofs

theorem some_check {h : RHarb} (e : someB h = true) : (checkH h).2.2 = 0 := by
  unfold someB validB at e
  rw [Bool.and_eq_true, decide_eq_true_eq] at e
  exact e.1
theorem some_truths {h : RHarb} (e : someB h = true) : truthsR h [] ≠ [] := fun q => by
  unfold someB okT at e
  rw [Bool.and_eq_true, decide_eq_true_eq, q] at e
  exact absurd e.2 (by decide)
theorem some_known {h : RHarb} (e : someB h = true) : knownR h 0 = (truthsR h [], 0) := by
  unfold knownR
  rw [if_neg (by decide), if_neg (some_truths e)]
theorem known_some {h : RHarb} {c : Int} (hc : c = 0 → (checkH h).2.2 = 0) (e : (knownR h c).2 = 0) : someB h = true ∧ c = 0 := by
  unfold knownR at e
  split at e
  · rename_i q; exact absurd e q
  · rename_i q
    split at e
    · cases e
    · rename_i q2
      have q3 : c = 0 := by omega
      refine ⟨?_, q3⟩
      unfold someB validB okT
      rw [Bool.and_eq_true, decide_eq_true_eq, decide_eq_true_eq]
      exact ⟨hc q3, List.length_pos_iff.2 q2⟩

theorem index_in {c n b : Int} (hc : c = 0) (h : 0 ≤ n ∧ n ≤ b - 1) : indexE c n b = 0 := by
  unfold indexE
  rw [if_pos hc, if_neg (by rw [Bool.not_eq_true, offP_false]; exact h)]
theorem day_in {d e : Int} (he : e = 0) (h : 0 ≤ d ∧ d ≤ 60) : dayE d e = 0 := by
  unfold dayE
  rw [if_pos he, if_neg (by rw [Bool.not_eq_true, offP_false]; exact h)]
/-- The days at which a letter comes, in all truths, by all ships that take it. -/
def comesE (h : RHarb) (l : Nat) : List Int := (truthsR h []).flatMap (rowE h l)

theorem comeR_some {h : RHarb} (hs : someB h = true) {l : Nat} (hl : l < h.letters.length) {d : Int} (hd : 0 ≤ d ∧ d ≤ 60) :
    comeR h l d = (settledR (cnt (fun e => untilB e d) (comesE h l)) ((comesE h l).length : Int), 0) := by
  unfold comeR
  rw [day_in (index_in (some_check hs) ⟨by omega, by omega⟩) hd, some_known hs]
  obtain ⟨i1, i2⟩ := comeTo_is h (truthsR h []) l d _ (Nat.le_refl _)
  simp only [Int.toNat_natCast, if_true]
  rw [i1, i2, List.take_length]
  rfl
theorem comeR_some_of {h : RHarb} {letter d : Int} (e : (comeR h letter d).2 = 0) : someB h = true ∧ 0 ≤ letter ∧ letter ≤ h.letters.length - 1 := by
  unfold comeR at e
  simp only at e
  split at e
  · rename_i q
    obtain ⟨q1, q2⟩ := known_some (fun q => (indexE_zero (dayE_zero q).1).1) q
    exact ⟨q1, (indexE_zero (dayE_zero q2).1).2⟩
  · rename_i q; exact absurd e q

theorem truths_go {h : RHarb} {but : List Int} {t : RTru} (e : t ∈ truthsR h but) : trueB h but t.fleet = true := by
  unfold truthsR at e
  simp only [List.mem_map, List.mem_filter] at e
  obtain ⟨f, ⟨_, h2⟩, h3⟩ := e
  subst h3
  exact h2
theorem truths_at {h : RHarb} {but : List Int} {t : RTru} (e : t ∈ truthsR h but) {l : Nat} (hl : l < h.letters.length) : t.by_[l]! = couldL h t.fleet l but h.ships.length := by
  rw [truths_by e, byTo_at h _ _ hl]
theorem truths_could {h : RHarb} {but : List Int} {t : RTru} (e : t ∈ truthsR h but) {l : Nat} (hl : l < h.letters.length) : 0 < (couldL h t.fleet l but h.ships.length).length := by
  have := truths_go e
  unfold trueB goB at this
  rw [Bool.and_eq_true, List.all_eq_true] at this
  exact of_decide_eq_true (this.2 l (List.mem_range.2 hl))

theorem comesE_pos {h : RHarb} (hs : someB h = true) {l : Nat} (hl : l < h.letters.length) : 0 < (comesE h l).length := by
  obtain ⟨t, ht⟩ := List.exists_mem_of_ne_nil _ (some_truths hs)
  have h1 : 0 < (rowE h l t).length := by
    unfold rowE
    rw [List.length_map, truths_at ht hl]
    exact truths_could ht hl
  obtain ⟨e, he⟩ := List.exists_mem_of_ne_nil _ (List.length_pos_iff.1 h1)
  exact List.length_pos_of_mem (List.mem_flatMap.2 ⟨t, ht, he⟩)

theorem atC_in {l : List RCall} {p : Int} (e : 0 ≤ atC l p) : (atC l p).toNat < l.length := by
  unfold atC at *
  rcases idxL_cases (fun c : RCall => decide (c.port = p)) l with q | ⟨k, hk, q⟩
  · omega
  · omega

/-- A ship that takes a letter calls behind the letter's day, if it calls. -/
theorem dayR_takes {h : RHarb} (hh : HOk h) {f : List Fate} (hf : FOk h f) {s : Nat} (hs : s < h.ships.length) {port day : Int} (ht : takesB (h.ships[s]!) port day = true) :
    dayR h f s port = -1 ∨ day < dayR h f s port := by
  unfold takesB at ht
  rw [Bool.and_eq_true, decide_eq_true_eq, decide_eq_true_eq] at ht
  have h1 := (hh.ship s hs).call _ (atC_in ht.2)
  have h2 := hf.late s (by have := hf.n; omega)
  unfold dayR
  split
  · exact .inl rfl
  · right
    generalize ((h.ships[s]!).calls[(atC (h.ships[s]!).calls port).toNat]!) = c at *
    omega

theorem comesE_late {h : RHarb} (hs : someB h = true) {l : Nat} (hl : l < h.letters.length) {e : Int} (he : e ∈ comesE h l) : untilB e (h.letters[l]!).day = false := by
  have hh := hok_check (some_check hs)
  obtain ⟨t, ht, he⟩ := List.mem_flatMap.1 he
  unfold rowE at he
  rw [truths_at ht hl] at he
  obtain ⟨s, hs2, rfl⟩ := List.mem_map.1 he
  unfold couldL at hs2
  simp only [List.mem_map, List.mem_filter, List.mem_range] at hs2
  obtain ⟨i, ⟨h1, h2⟩, rfl⟩ := hs2
  unfold canB shipB at h2
  simp only [Bool.and_eq_true] at h2
  have := dayR_takes hh (truths_fok hh ht) h1 h2.1.1
  rw [Int.toNat_natCast]
  have hd := (hh.letter l hl).2.1
  unfold untilB
  rw [Bool.and_eq_false_iff, decide_eq_false_iff_not, decide_eq_false_iff_not]
  omega

theorem cnt_zero {α : Type} {p : α → Bool} {l : List α} (h : ∀ x ∈ l, p x = false) : cnt p l = 0 := by
  unfold cnt
  rw [List.filter_eq_nil_iff.2 (fun x hx => by rw [h x hx]; decide)]
  rfl
theorem cnt_mono {α : Type} {p q : α → Bool} {l : List α} (h : ∀ x ∈ l, p x = true → q x = true) : cnt p l ≤ cnt q l := by
  induction l with
  | nil => exact Int.le_refl _
  | cons x l ih =>
    have ih := ih (fun y hy => h y (List.mem_cons_of_mem _ hy))
    have h0 := h x List.mem_cons_self
    unfold cnt at *
    simp only [List.filter_cons]
    by_cases q1 : p x = true
    · rw [if_pos q1, if_pos (h0 q1)]; simp only [List.length_cons]; omega
    · rw [if_neg q1]
      split
      · simp only [List.length_cons]; omega
      · exact ih

/-- What ShipLater says. -/
theorem come_later {h : RHarb} (hs : someB h = true) {l : Nat} (hl : l < h.letters.length) {a b : Int} (ha : 0 ≤ a) (hab : a ≤ b) (hb : b ≤ 60) :
    ∃ m n : Int, comeR h l a = (m, 0) ∧ comeR h l b = (n, 0) ∧ (m = 1 → n = 1) ∧ (n = 2 → m = 2) ∧ (m = 0 → n ≠ 2) := by
  refine ⟨_, _, comeR_some hs hl ⟨ha, by omega⟩, comeR_some hs hl ⟨by omega, hb⟩, ?_⟩
  have h1 := comesE_pos hs hl
  have h2 := cnt_le (fun e => untilB e a) (comesE h l)
  have h3 := cnt_le (fun e => untilB e b) (comesE h l)
  have h4 : cnt (fun e => untilB e a) (comesE h l) ≤ cnt (fun e => untilB e b) (comesE h l) := cnt_mono fun x _ => by
    simp only [untilB, Bool.and_eq_true, decide_eq_true_eq]; omega
  generalize cnt (fun e => untilB e a) (comesE h l) = A at *
  generalize cnt (fun e => untilB e b) (comesE h l) = B at *
  unfold settledR
  refine ⟨?_, ?_, ?_⟩ <;> (repeat' split) <;> omega
theorem come_own {h : RHarb} (hs : someB h = true) {l : Nat} (hl : l < h.letters.length) : comeR h l (h.letters[l]!).day = (2, 0) := by
  have hh := hok_check (some_check hs)
  have hd := (hh.letter l hl).2.1
  rw [comeR_some hs hl ⟨by omega, by omega⟩, cnt_zero (fun e he => comesE_late hs hl he)]
  have h1 := comesE_pos hs hl
  unfold settledR
  rw [if_neg (by omega), if_pos rfl]
end Go.Proofs.Ytnfmmhmfbipkjaa.Abs

namespace Go.Proofs.Ytnfmmhmfbipkjaa.Abs
set_option linter.unusedSimpArgs false
set_option maxHeartbeats 4000000
set_option maxRecDepth 100000
open Go Go.RowKit Go.Proofs

theorem natMod (a b : Nat) : ((a : Int) % (b : Int)) = ((a % b : Nat) : Int) := (Int.natCast_emod a b).symm
theorem natMod61 (a : Nat) : ((a : Int) % 61) = ((a % 61 : Nat) : Int) := (Int.natCast_emod a 61).symm

theorem shipLater_bad (h : RHarb) (hf : HFit h) (x y z : Nat) (e : ¬ (someB h = true ∧ 0 < h.letters.length)) : PCall Try.prog 11 [harbA h, .agg [.int .u8 x, .int .u8 y, .int .u8 z]] (.bool true) := by
  intro m
  have a1 := some_c h hf.names
  have a2 := come_top h hf.names 0 0
  have aw := awake_c
  have hne : (comeR h 0 0).2 ≠ 0 := fun q => by
    obtain ⟨q1, q2⟩ := comeR_some_of q
    exact e ⟨q1, by omega⟩
  generalize comeR h 0 0 = C at *
  generalize someB h = b at *
  simp only [harbA, harbL, ints] at *
  (refine acall_intro (E := envC (modeAt [] []) false []) (envCOk _ _ _) rfl Try.func11 rfl Try.call11 (by kernel_rfl) (by simp [Try.ntmps11]) ?_; simp only [Try.f11];  simp (maxSteps := 4000000) only [↓VP, VQ, ite_self, Nat.reduceEqDiff, Nat.reduceAdd, Nat.reduceSub, Nat.reduceMul, Nat.reduceLeDiff, Nat.reduceLT, Nat.reduceBEq, Int.reduceLE, Int.reduceLT, Int.reduceNeg, Int.reduceAdd, Int.reduceSub, Int.reduceToNat, ↓reduceIte, reduceCtorEq, ↓ixShip, ↓ixCall, ↓ixLet, ↓ixRep, Int.reduceEq])
  ((refine ACall.pure (a1) ?_; try simp (maxSteps := 4000000) only [↓VP, VQ, ite_self, Nat.reduceEqDiff, Nat.reduceAdd, Nat.reduceSub, Nat.reduceMul, Nat.reduceLeDiff, Nat.reduceLT, Nat.reduceBEq, Int.reduceLE, Int.reduceLT, Int.reduceNeg, Int.reduceAdd, Int.reduceSub, Int.reduceToNat, ↓reduceIte, reduceCtorEq, ↓ixShip, ↓ixCall, ↓ixLet, ↓ixRep]); try simp (maxSteps := 4000000) only [↓VP, VQ, ite_self, Nat.reduceEqDiff, Nat.reduceAdd, Nat.reduceSub, Nat.reduceMul, Nat.reduceLeDiff, Nat.reduceLT, Nat.reduceBEq, Int.reduceLE, Int.reduceLT, Int.reduceNeg, Int.reduceAdd, Int.reduceSub, Int.reduceToNat, ↓reduceIte, reduceCtorEq, ↓ixShip, ↓ixCall, ↓ixLet, ↓ixRep, eq_self, decide_true, decide_false, if_true, if_false, not_true_eq_false, List.append_eq])
  repeat' (first | intro _ | refine And.intro ?_ ?_)
  all_goals try (first | omega | (simp only [List.length_map, List.length_cons, List.length_nil, List.length_append, Nat.zero_add]; omega) | exact nnC _ | exact nlC (by decide) _ | exact nbC rfl)
  all_goals first
    | (exfalso; refine e ⟨by assumption, ?_⟩; omega)
    | skip
  all_goals
    (refine ACall.pure (a2) ?_; try simp (maxSteps := 4000000) only [↓VP, VQ, ite_self, Nat.reduceEqDiff, Nat.reduceAdd, Nat.reduceSub, Nat.reduceMul, Nat.reduceLeDiff, Nat.reduceLT, Nat.reduceBEq, Int.reduceLE, Int.reduceLT, Int.reduceNeg, Int.reduceAdd, Int.reduceSub, Int.reduceToNat, ↓reduceIte, reduceCtorEq, ↓ixShip, ↓ixCall, ↓ixLet, ↓ixRep, eq_self, decide_true, decide_false, if_true, if_false, not_true_eq_false, List.append_eq, hne])
    ((refine ACall.pure (aw) ?_; try simp (maxSteps := 4000000) only [↓VP, VQ, ite_self, Nat.reduceEqDiff, Nat.reduceAdd, Nat.reduceSub, Nat.reduceMul, Nat.reduceLeDiff, Nat.reduceLT, Nat.reduceBEq, Int.reduceLE, Int.reduceLT, Int.reduceNeg, Int.reduceAdd, Int.reduceSub, Int.reduceToNat, ↓reduceIte, reduceCtorEq, ↓ixShip, ↓ixCall, ↓ixLet, ↓ixRep]); try simp (maxSteps := 4000000) only [↓VP, VQ, ite_self, Nat.reduceEqDiff, Nat.reduceAdd, Nat.reduceSub, Nat.reduceMul, Nat.reduceLeDiff, Nat.reduceLT, Nat.reduceBEq, Int.reduceLE, Int.reduceLT, Int.reduceNeg, Int.reduceAdd, Int.reduceSub, Int.reduceToNat, ↓reduceIte, reduceCtorEq, ↓ixShip, ↓ixCall, ↓ixLet, ↓ixRep, eq_self, decide_true, decide_false, if_true, if_false, not_true_eq_false, List.append_eq])

theorem shipLater_ok (h : RHarb) (hf : HFit h) (x y z : Nat) (hx : x < 256) (hy : y < 256) (hz : z < 256) (hs : someB h = true) (hl : 0 < h.letters.length) : PCall Try.prog 11 [harbA h, .agg [.int .u8 x, .int .u8 y, .int .u8 z]] (.bool true) := by
  intro m
  have hh := hok_check (some_check hs)
  have hnl := hh.nl
  have a1 := some_c h hf.names
  rw [hs] at a1
  have hL : x % h.letters.length < h.letters.length := Nat.mod_lt _ hl
  have hA : y % 61 < 61 := Nat.mod_lt _ (by decide)
  have hB : z % 61 < 61 := Nat.mod_lt _ (by decide)
  have aw := awake_c
  have hmod := natMod x h.letters.length
  generalize x % h.letters.length = L at *
  have hday := (hh.letter L hL).2.1
  have cm := come_top h hf.names L (min ((y % 61 : Nat) : Int) ((z % 61 : Nat) : Int))
  have cx := come_top h hf.names L (max ((y % 61 : Nat) : Int) ((z % 61 : Nat) : Int))
  have co := come_top h hf.names L (h.letters[L]!).day
  obtain ⟨mm, nn, e1, e2, w1, w2, w3⟩ := come_later hs hL (a := min ((y % 61 : Nat) : Int) ((z % 61 : Nat) : Int)) (b := max ((y % 61 : Nat) : Int) ((z % 61 : Nat) : Int)) (by omega) (by omega) (by omega)
  rw [e1] at cm
  rw [e2] at cx
  rw [come_own hs hL] at co
  simp only [harbA, harbL, ints] at *
  (refine acall_intro (E := envC (modeAt [] []) false []) (envCOk _ _ _) rfl Try.func11 rfl Try.call11 (by kernel_rfl) (by simp [Try.ntmps11]) ?_; simp only [Try.f11];  simp (maxSteps := 4000000) only [↓VP, VQ, ite_self, Nat.reduceEqDiff, Nat.reduceAdd, Nat.reduceSub, Nat.reduceMul, Nat.reduceLeDiff, Nat.reduceLT, Nat.reduceBEq, Int.reduceLE, Int.reduceLT, Int.reduceNeg, Int.reduceAdd, Int.reduceSub, Int.reduceToNat, ↓reduceIte, reduceCtorEq, ↓ixShip, ↓ixCall, ↓ixLet, ↓ixRep, Int.reduceEq])
  ((refine ACall.pure (a1) ?_; try simp (maxSteps := 4000000) only [↓VP, VQ, ite_self, Nat.reduceEqDiff, Nat.reduceAdd, Nat.reduceSub, Nat.reduceMul, Nat.reduceLeDiff, Nat.reduceLT, Nat.reduceBEq, Int.reduceLE, Int.reduceLT, Int.reduceNeg, Int.reduceAdd, Int.reduceSub, Int.reduceToNat, ↓reduceIte, reduceCtorEq, ↓ixShip, ↓ixCall, ↓ixLet, ↓ixRep]); try simp (maxSteps := 4000000) only [↓VP, VQ, ite_self, Nat.reduceEqDiff, Nat.reduceAdd, Nat.reduceSub, Nat.reduceMul, Nat.reduceLeDiff, Nat.reduceLT, Nat.reduceBEq, Int.reduceLE, Int.reduceLT, Int.reduceNeg, Int.reduceAdd, Int.reduceSub, Int.reduceToNat, ↓reduceIte, reduceCtorEq, ↓ixShip, ↓ixCall, ↓ixLet, ↓ixRep, eq_self, decide_true, decide_false, if_true, if_false, not_true_eq_false, List.append_eq])
  repeat' (first | intro _ | refine And.intro ?_ ?_)
  all_goals try (first | omega | (simp only [List.length_map, List.length_cons, List.length_nil, List.length_append, Nat.zero_add]; omega) | exact nnC _ | exact nlC (by decide) _ | exact nbC rfl)
  (refine adraw (by first | exact envOk _ | exact envCOk _ _ _) mixed [⟨false, false, 0⟩, ⟨false, false, 0⟩, ⟨false, false, 0⟩, ⟨false, false, 0⟩, ⟨false, false, 0⟩, ⟨false, false, 0⟩, ⟨false, false, 0⟩, ⟨false, false, 0⟩, ⟨false, false, 0⟩, ⟨false, false, 0⟩, ⟨false, false, 0⟩, ⟨false, false, 0⟩, ⟨false, false, 0⟩, ⟨false, false, 0⟩, ⟨false, false, 0⟩, ⟨false, false, 0⟩, ⟨false, false, 0⟩, ⟨false, false, 0⟩] (by kernel_rfl) ?_; show vcOpsD _ _ _ (_ :: _) _ _)
  simp (maxSteps := 4000000) only [↓VP, VQ, ite_self, Nat.reduceEqDiff, Nat.reduceAdd, Nat.reduceSub, Nat.reduceMul, Nat.reduceLeDiff, Nat.reduceLT, Nat.reduceBEq, Int.reduceLE, Int.reduceLT, Int.reduceNeg, Int.reduceAdd, Int.reduceSub, Int.reduceToNat, ↓reduceIte, reduceCtorEq, ↓ixShip, ↓ixCall, ↓ixLet, ↓ixRep, hmod, natMod61]
  repeat' (first | intro _ | refine And.intro ?_ ?_)
  all_goals try (first | omega | (simp only [List.length_map, List.length_cons, List.length_nil, List.length_append, Nat.zero_add]; omega) | exact nnC _ | exact nlC (by decide) _ | exact nbC rfl)
  ((refine ACall.pure (cm) ?_; try simp (maxSteps := 4000000) only [↓VP, VQ, ite_self, Nat.reduceEqDiff, Nat.reduceAdd, Nat.reduceSub, Nat.reduceMul, Nat.reduceLeDiff, Nat.reduceLT, Nat.reduceBEq, Int.reduceLE, Int.reduceLT, Int.reduceNeg, Int.reduceAdd, Int.reduceSub, Int.reduceToNat, ↓reduceIte, reduceCtorEq, ↓ixShip, ↓ixCall, ↓ixLet, ↓ixRep]); try simp (maxSteps := 4000000) only [↓VP, VQ, ite_self, Nat.reduceEqDiff, Nat.reduceAdd, Nat.reduceSub, Nat.reduceMul, Nat.reduceLeDiff, Nat.reduceLT, Nat.reduceBEq, Int.reduceLE, Int.reduceLT, Int.reduceNeg, Int.reduceAdd, Int.reduceSub, Int.reduceToNat, ↓reduceIte, reduceCtorEq, ↓ixShip, ↓ixCall, ↓ixLet, ↓ixRep, eq_self, decide_true, decide_false, if_true, if_false, not_true_eq_false, List.append_eq])
  ((refine ACall.pure (cx) ?_; try simp (maxSteps := 4000000) only [↓VP, VQ, ite_self, Nat.reduceEqDiff, Nat.reduceAdd, Nat.reduceSub, Nat.reduceMul, Nat.reduceLeDiff, Nat.reduceLT, Nat.reduceBEq, Int.reduceLE, Int.reduceLT, Int.reduceNeg, Int.reduceAdd, Int.reduceSub, Int.reduceToNat, ↓reduceIte, reduceCtorEq, ↓ixShip, ↓ixCall, ↓ixLet, ↓ixRep]); try simp (maxSteps := 4000000) only [↓VP, VQ, ite_self, Nat.reduceEqDiff, Nat.reduceAdd, Nat.reduceSub, Nat.reduceMul, Nat.reduceLeDiff, Nat.reduceLT, Nat.reduceBEq, Int.reduceLE, Int.reduceLT, Int.reduceNeg, Int.reduceAdd, Int.reduceSub, Int.reduceToNat, ↓reduceIte, reduceCtorEq, ↓ixShip, ↓ixCall, ↓ixLet, ↓ixRep, eq_self, decide_true, decide_false, if_true, if_false, not_true_eq_false, List.append_eq])
  (refine adraw (by first | exact envOk _ | exact envCOk _ _ _) mixed [⟨false, false, 0⟩, ⟨false, false, 0⟩, ⟨false, false, 0⟩, ⟨false, false, 0⟩, ⟨false, false, 0⟩, ⟨false, false, 0⟩, ⟨false, false, 0⟩, ⟨false, false, 0⟩, ⟨false, false, 0⟩, ⟨false, false, 0⟩, ⟨false, false, 0⟩, ⟨false, false, 0⟩, ⟨false, false, 0⟩, ⟨false, false, 0⟩] (by kernel_rfl) ?_; show vcOpsD _ _ _ (_ :: _) _ _)
  simp (maxSteps := 4000000) only [↓VP, VQ, ite_self, Nat.reduceEqDiff, Nat.reduceAdd, Nat.reduceSub, Nat.reduceMul, Nat.reduceLeDiff, Nat.reduceLT, Nat.reduceBEq, Int.reduceLE, Int.reduceLT, Int.reduceNeg, Int.reduceAdd, Int.reduceSub, Int.reduceToNat, ↓reduceIte, reduceCtorEq, ↓ixShip, ↓ixCall, ↓ixLet, ↓ixRep]
  repeat' (first | intro _ | refine And.intro ?_ ?_)
  all_goals try (first | omega | (simp only [List.length_map, List.length_cons, List.length_nil, List.length_append, Nat.zero_add]; omega) | exact nnC _ | exact nlC (by decide) _ | exact nbC rfl)
  (refine ⟨_, co, ?_⟩; try simp (maxSteps := 4000000) only [↓VP, VQ, ite_self, Nat.reduceEqDiff, Nat.reduceAdd, Nat.reduceSub, Nat.reduceMul, Nat.reduceLeDiff, Nat.reduceLT, Nat.reduceBEq, Int.reduceLE, Int.reduceLT, Int.reduceNeg, Int.reduceAdd, Int.reduceSub, Int.reduceToNat, ↓reduceIte, reduceCtorEq, ↓ixShip, ↓ixCall, ↓ixLet, ↓ixRep])
  repeat' (first | intro _ | refine And.intro ?_ ?_)
  all_goals first
    | (exfalso; omega)
    | (((refine ACall.pure (aw) ?_; try simp (maxSteps := 4000000) only [↓VP, VQ, ite_self, Nat.reduceEqDiff, Nat.reduceAdd, Nat.reduceSub, Nat.reduceMul, Nat.reduceLeDiff, Nat.reduceLT, Nat.reduceBEq, Int.reduceLE, Int.reduceLT, Int.reduceNeg, Int.reduceAdd, Int.reduceSub, Int.reduceToNat, ↓reduceIte, reduceCtorEq, ↓ixShip, ↓ixCall, ↓ixLet, ↓ixRep]); try simp (maxSteps := 4000000) only [↓VP, VQ, ite_self, Nat.reduceEqDiff, Nat.reduceAdd, Nat.reduceSub, Nat.reduceMul, Nat.reduceLeDiff, Nat.reduceLT, Nat.reduceBEq, Int.reduceLE, Int.reduceLT, Int.reduceNeg, Int.reduceAdd, Int.reduceSub, Int.reduceToNat, ↓reduceIte, reduceCtorEq, ↓ixShip, ↓ixCall, ↓ixLet, ↓ixRep, eq_self, decide_true, decide_false, if_true, if_false, not_true_eq_false, List.append_eq]))

theorem shipLater_c (h : RHarb) (hf : HFit h) (x y z : Nat) (hx : x < 256) (hy : y < 256) (hz : z < 256) : PCall Try.prog 11 [harbA h, .agg [.int .u8 x, .int .u8 y, .int .u8 z]] (.bool true) := by
  by_cases e : someB h = true ∧ 0 < h.letters.length
  · exact shipLater_ok h hf x y z hx hy hz e.1 e.2
  · exact shipLater_bad h hf x y z e
end Go.Proofs.Ytnfmmhmfbipkjaa.Abs

namespace Go.Proofs.Ytnfmmhmfbipkjaa.Abs
set_option linter.unusedSimpArgs false
open Go Go.RowKit Go.Proofs

theorem rowE_ne {h : RHarb} {t : RTru} (ht : t ∈ truthsR h []) {l : Nat} (hl : l < h.letters.length) : ∃ e, e ∈ rowE h l t := by
  have h1 : 0 < (rowE h l t).length := by
    unfold rowE
    rw [List.length_map, truths_at ht hl]
    exact truths_could ht hl
  exact List.exists_mem_of_ne_nil _ (List.length_pos_iff.1 h1)

theorem pairE_mem {h : RHarb} {a b : Nat} {t : RTru} {d : Int × Int} : d ∈ pairE h a b t ↔ d.1 ∈ rowE h a t ∧ d.2 ∈ rowE h b t := by
  unfold pairE besideE rowE
  simp only [List.mem_flatMap, List.mem_map]
  constructor
  · rintro ⟨s, hs, u, hu, rfl⟩
    exact ⟨⟨s, hs, rfl⟩, ⟨u, hu, rfl⟩⟩
  · rintro ⟨⟨s, hs, e1⟩, ⟨u, hu, e2⟩⟩
    exact ⟨s, hs, u, hu, by rw [e1, e2]⟩

def pairsE (h : RHarb) (a b : Nat) : List (Int × Int) := (truthsR h []).flatMap (pairE h a b)

theorem beforeR_some {h : RHarb} (hs : someB h = true) {a b : Nat} (ha : a < h.letters.length) (hb : b < h.letters.length) (hab : a ≠ b) :
    beforeR h a b = (settledR (cnt befP (pairsE h a b)) ((pairsE h a b).length : Int), 0) := by
  have e : befE h a b = 0 := by
    unfold befE
    rw [index_in (some_check hs) ⟨by omega, by omega⟩, index_in (some_check hs) ⟨by omega, by omega⟩]
    rw [if_pos rfl, if_neg (by omega)]
  unfold beforeR
  rw [e, some_known hs, if_pos rfl]
  obtain ⟨i1, i2⟩ := befTo_is h (truthsR h []) a b _ (Nat.le_refl _)
  rw [Int.toNat_natCast, Int.toNat_natCast]
  simp only
  rw [i1, i2, List.take_length]
  rfl
theorem beforeR_one {h : RHarb} (hs : someB h = true) {a : Nat} (ha : a < h.letters.length) : beforeR h a a = (0, 2) := by
  have e : befE h a a = 2 := by
    unfold befE
    rw [index_in (some_check hs) ⟨by omega, by omega⟩]
    rw [if_pos rfl, if_pos (by simp)]
  have k : knownR h 2 = ([], 2) := by unfold knownR; rw [if_pos (by decide)]
  unfold beforeR
  rw [e, k, if_neg (by decide)]
theorem beforeR_some_of {h : RHarb} {a b : Int} (e : (beforeR h a b).2 = 0) : someB h = true ∧ (0 ≤ a ∧ a ≤ (h.letters.length : Int) - 1) ∧ (0 ≤ b ∧ b ≤ (h.letters.length : Int) - 1) := by
  unfold beforeR at e
  split at e
  · rename_i q
    obtain ⟨q1, q2⟩ := known_some (fun q => (befE_zero q).1) q
    exact ⟨q1, (befE_zero q2).2.1, (befE_zero q2).2.2.1⟩
  · rename_i q; exact absurd e q

theorem pairsE_pos {h : RHarb} (hs : someB h = true) {a b : Nat} (ha : a < h.letters.length) (hb : b < h.letters.length) : 0 < (pairsE h a b).length := by
  obtain ⟨t, ht⟩ := List.exists_mem_of_ne_nil _ (some_truths hs)
  obtain ⟨x, hx⟩ := rowE_ne ht ha
  obtain ⟨y, hy⟩ := rowE_ne ht hb
  exact List.length_pos_of_mem (List.mem_flatMap.2 ⟨t, ht, pairE_mem.2 ⟨show (x, y).1 ∈ _ from hx, hy⟩⟩)

theorem before_must {h : RHarb} {a b : Nat} : settledR (cnt befP (pairsE h a b)) ((pairsE h a b).length : Int) = 1 ↔ ∀ t ∈ truthsR h [], ∀ x ∈ rowE h a t, ∀ y ∈ rowE h b t, befB x y = true := by
  have h1 : settledR (cnt befP (pairsE h a b)) ((pairsE h a b).length : Int) = 1 ↔ cnt befP (pairsE h a b) = ((pairsE h a b).length : Int) := by
    unfold settledR
    constructor
    · intro q
      split at q
      · assumption
      · split at q <;> cases q
    · intro q; rw [if_pos q]
  rw [h1, cnt_all]
  unfold pairsE
  constructor
  · intro q t ht x hx y hy
    exact q (x, y) (List.mem_flatMap.2 ⟨t, ht, pairE_mem.2 ⟨hx, hy⟩⟩)
  · intro q d hd
    obtain ⟨t, ht, hd⟩ := List.mem_flatMap.1 hd
    obtain ⟨q1, q2⟩ := pairE_mem.1 hd
    exact q t ht _ q1 _ q2
theorem before_never {h : RHarb} (hs : someB h = true) {a b : Nat} (ha : a < h.letters.length) (hb : b < h.letters.length) (q : ∀ t ∈ truthsR h [], ∀ x ∈ rowE h a t, ∀ y ∈ rowE h b t, befB x y = false) : settledR (cnt befP (pairsE h a b)) ((pairsE h a b).length : Int) = 2 := by
  rw [cnt_zero fun d hd => by
    obtain ⟨t, ht, hd⟩ := List.mem_flatMap.1 hd
    obtain ⟨q1, q2⟩ := pairE_mem.1 hd
    exact q t ht _ q1 _ q2]
  have := pairsE_pos hs ha hb
  unfold settledR
  rw [if_neg (by omega), if_pos rfl]

theorem befB_iff {x y : Int} : befB x y = true ↔ 0 ≤ x ∧ (y < 0 ∨ x < y) := by
  unfold befB untilB
  simp only [Bool.and_eq_true, Bool.not_eq_true', Bool.and_eq_false_iff, decide_eq_true_eq, decide_eq_false_iff_not]
  omega
theorem befB_not {x y : Int} (e : befB x y = true) : befB y x = false := by
  rw [Bool.eq_false_iff, ne_eq, befB_iff]
  rw [befB_iff] at e
  omega
theorem befB_trans {x y z : Int} (e : befB x y = true) (f : befB y z = true) : befB x z = true := by
  rw [befB_iff] at *
  omega

/-- What ShipBefore says. -/
theorem before_law {h : RHarb} (hs : someB h = true) {a b c : Nat} (ha : a < h.letters.length) (hb : b < h.letters.length) (hc : c < h.letters.length) (hab : a ≠ b) :
    (beforeR h a b).2 = 0 ∧ (beforeR h b a).2 = 0 ∧ ((beforeR h a b).1 = 1 → (beforeR h b a).1 = 2) ∧
      ((beforeR h a b).1 = 1 → (beforeR h b c).2 = 0 → (beforeR h b c).1 = 1 → (beforeR h a c).2 = 0 ∧ (beforeR h a c).1 = 1) := by
  rw [beforeR_some hs ha hb hab, beforeR_some hs hb ha (Ne.symm hab)]
  have anti : (∀ t ∈ truthsR h [], ∀ x ∈ rowE h a t, ∀ y ∈ rowE h b t, befB x y = true) → settledR (cnt befP (pairsE h b a)) ((pairsE h b a).length : Int) = 2 := fun q =>
    before_never hs hb ha fun t ht x hx y hy => befB_not (q t ht y hy x hx)
  refine ⟨rfl, rfl, fun q => anti (before_must.1 q), fun q1 q2 q3 => ?_⟩
  have hbc : b ≠ c := fun q => by subst q; rw [beforeR_one hs hb] at q2; cases q2
  rw [beforeR_some hs hb hc hbc] at q3
  have hac : a ≠ c := fun q => by
    subst q
    have := anti (before_must.1 q1)
    simp only at q3
    omega
  rw [beforeR_some hs ha hc hac]
  refine ⟨rfl, before_must.2 fun t ht x hx z hz => ?_⟩
  obtain ⟨y, hy⟩ := rowE_ne ht hb
  exact befB_trans (before_must.1 q1 t ht x hx y hy) (before_must.1 q3 t ht y hy z hz)
end Go.Proofs.Ytnfmmhmfbipkjaa.Abs

namespace Go.Proofs.Ytnfmmhmfbipkjaa.Abs
set_option linter.unusedSimpArgs false
open Go Go.RowKit Go.Proofs

/-- The last day at which a ship calls, in all truths. -/
def hiE (h : RHarb) (port : Int) (s : Nat) : Int := (calledTo h (truthsR h []) s port (truthsR h []).length).1.2
/-- Does a ship that takes a letter surely call? -/
def sureE (h : RHarb) (port day : Int) (s : Nat) : Prop := takesB (h.ships[s]!) port day = true ∧ (calledTo h (truthsR h []) s port (truthsR h []).length).2 = ((truthsR h []).length : Int)

theorem sendTo_law (h : RHarb) (port day : Int) : ∀ n : Nat, ((sendTo h (truthsR h []) port day n).1 = -1 ∧ ∀ s, s < n → ¬ sureE h port day s) ∨
    ∃ o : Nat, o < n ∧ sendTo h (truthsR h []) port day n = ((o : Int), hiE h port o) ∧ sureE h port day o ∧ ∀ s, s < n → sureE h port day s → hiE h port o ≤ hiE h port s ∧ (s < o → hiE h port o < hiE h port s)
  | 0 => .inl ⟨rfl, fun s hs => by omega⟩
  | n + 1 => by
    have ih := sendTo_law h port day n
    have hok : ∀ b : Int × Int, sendOk h (truthsR h []) port day b n = true ↔ sureE h port day n ∧ (b.1 < 0 ∨ hiE h port n < b.2) := fun b => by
      unfold sendOk sureE hiE
      simp only [Bool.and_eq_true, Bool.or_eq_true, decide_eq_true_eq, and_assoc]
    unfold sendTo
    rcases ih with ⟨i1, i2⟩ | ⟨o, ho, i1, i2, i3⟩
    · by_cases q : sendOk h (truthsR h []) port day (sendTo h (truthsR h []) port day n) n = true
      · rw [if_pos q]
        have q1 := ((hok _).1 q).1
        refine .inr ⟨n, by omega, rfl, q1, fun s hs hq => ?_⟩
        by_cases e : s = n
        · subst e; exact ⟨Int.le_refl _, fun w => by omega⟩
        · exact absurd hq (i2 s (by omega))
      · rw [if_neg q]
        refine .inl ⟨i1, fun s hs hq => ?_⟩
        by_cases e : s = n
        · subst e; exact q ((hok _).2 ⟨hq, .inl (by omega)⟩)
        · exact i2 s (by omega) hq
    · by_cases q : sendOk h (truthsR h []) port day (sendTo h (truthsR h []) port day n) n = true
      · rw [if_pos q]
        obtain ⟨q1, q2⟩ := (hok _).1 q
        rw [i1] at q2
        simp only at q2
        refine .inr ⟨n, by omega, rfl, q1, fun s hs hq => ?_⟩
        by_cases e : s = n
        · subst e; exact ⟨Int.le_refl _, fun w => by omega⟩
        · have := i3 s (by omega) hq
          exact ⟨by omega, fun _ => by omega⟩
      · rw [if_neg q]
        refine .inr ⟨o, by omega, i1, i2, fun s hs hq => ?_⟩
        by_cases e : s = n
        · subst e
          have q2 : ¬ (hiE h port s < hiE h port o) := fun w => q ((hok _).2 ⟨hq, .inr (by rw [i1]; exact w)⟩)
          exact ⟨by omega, fun w => by omega⟩
        · exact i3 s (by omega) hq

theorem sendR_some {h : RHarb} (hs : someB h = true) {port day : Int} (hp : 0 ≤ port ∧ port ≤ h.ports - 1) (hd : 0 ≤ day ∧ day ≤ 60) :
    (sendR h port day = (0, 0, 9) ∧ ∀ s, s < h.ships.length → ¬ sureE h port day s) ∨
    ∃ o : Nat, o < h.ships.length ∧ sendR h port day = ((o : Int), hiE h port o, 0) ∧ sureE h port day o ∧ ∀ s, s < h.ships.length → sureE h port day s → hiE h port o ≤ hiE h port s ∧ (s < o → hiE h port o < hiE h port s) := by
  have e : dayE day (indexE (checkH h).2.2 port h.ports) = 0 := day_in (index_in (some_check hs) hp) hd
  have e2 : sendR h port day = if (sendTo h (truthsR h []) port day h.ships.length).1 < 0 then (0, 0, 9) else ((sendTo h (truthsR h []) port day h.ships.length).1, (sendTo h (truthsR h []) port day h.ships.length).2, 0) := by
    unfold sendR
    rw [e, some_known hs, if_pos rfl]
  rcases sendTo_law h port day h.ships.length with ⟨i1, i2⟩ | ⟨o, ho, i1, i2, i3⟩
  · rw [e2, if_pos (by omega)]
    exact .inl ⟨rfl, i2⟩
  · rw [e2, i1]
    simp only
    rw [if_neg (by omega)]
    exact .inr ⟨o, ho, rfl, i2, i3⟩
theorem sendR_some_of {h : RHarb} {port day : Int} (e : (sendR h port day).2.2 = 0) : someB h = true := by
  unfold sendR at e
  split at e
  · rename_i q
    exact (known_some (fun q => (indexE_zero (dayE_zero q).1).1) q).1
  · rename_i q; exact absurd e q

theorem callsR_some {h : RHarb} (hs : someB h = true) {s : Nat} (hl : s < h.ships.length) {port : Int} (hp : 0 ≤ port ∧ port ≤ h.ports - 1) :
    callsR h s port = ((calledTo h (truthsR h []) s port (truthsR h []).length).1, settledR (calledTo h (truthsR h []) s port (truthsR h []).length).2 ((truthsR h []).length : Int), 0) := by
  have e : (callsR h s port).2.2 = 0 := by
    unfold callsR
    simp only
    rw [index_in (some_check hs) ⟨by omega, by omega⟩, index_in (some_check hs) hp, if_pos rfl, some_known hs, if_pos rfl]
  rw [callsR_good e, Int.toNat_natCast]
theorem settled_must {a b : Int} : settledR a b = 1 ↔ a = b := by
  unfold settledR
  constructor
  · intro q
    split at q
    · assumption
    · split at q <;> cases q
  · intro q; rw [if_pos q]

theorem sure_days {h : RHarb} {port day : Int} {s : Nat} (e : sureE h port day s) {t : RTru} (ht : t ∈ truthsR h []) : 0 ≤ dayR h t.fleet s port ∧ dayR h t.fleet s port ≤ hiE h port s := by
  obtain ⟨i, hi, rfl⟩ := List.mem_iff_getElem.1 ht
  have c := called_is h (truthsR h []) s port _ (Nat.le_refl _)
  simp only at c
  obtain ⟨c1, c2, _, c4⟩ := c
  have h1 := c1.1 e.2 i hi
  rw [getD_any hi] at h1
  have h2 : (calledTo h (truthsR h []) s port (truthsR h []).length).2 ≠ 0 := by rw [e.2]; omega
  have h3 := ((c4 h2).1 i hi (by rw [getD_any hi]; exact h1)).2
  rw [getD_any hi] at h3
  exact ⟨h1, h3⟩
end Go.Proofs.Ytnfmmhmfbipkjaa.Abs

namespace Go.Proofs.Ytnfmmhmfbipkjaa.Abs
set_option linter.unusedSimpArgs false
open Go Go.RowKit Go.Proofs

def lostH (h : RHarb) (n : Int) : RHarb := { h with lost := n }

theorem sunkR_some {h : RHarb} (hs : someB h = true) : sunkR h = (sureTo h (truthsR h []) h.ships.length, mayTo h (truthsR h []) h.ships.length, 0) := by
  unfold sunkR
  rw [some_check hs, some_known hs, if_pos rfl]
theorem sunkR_some_of {h : RHarb} (e : (sunkR h).2.2 = 0) : someB h = true := by
  unfold sunkR at e
  split at e
  · rename_i q; exact (known_some (fun q => q) q).1
  · rename_i q; exact absurd e q

theorem mem_may {h : RHarb} {T : List RTru} {x : Int} : x ∈ mayTo h T h.ships.length ↔ ∃ s : Nat, x = s ∧ s < h.ships.length ∧ ∃ t ∈ T, (s : Int) ∈ lostL h t.fleet t.fleet.length := by
  unfold mayTo
  simp only [List.mem_map, List.mem_filter, List.mem_range, decide_eq_true_eq]
  constructor
  · rintro ⟨s, ⟨h1, h2⟩, rfl⟩
    obtain ⟨i, hi, q⟩ := (sinkN_is h T s _).2.1 h2
    rw [getD_any hi] at q
    exact ⟨s, rfl, h1, _, List.getElem_mem hi, q⟩
  · rintro ⟨s, rfl, h1, t, ht, q⟩
    obtain ⟨i, hi, rfl⟩ := List.mem_iff_getElem.1 ht
    exact ⟨s, ⟨h1, (sinkN_is h T s _).2.2 ⟨i, hi, by rw [getD_any hi]; exact q⟩⟩, rfl⟩
theorem mem_sure {h : RHarb} {T : List RTru} {x : Int} : x ∈ sureTo h T h.ships.length ↔ ∃ s : Nat, x = s ∧ s < h.ships.length ∧ ∀ t ∈ T, (s : Int) ∈ lostL h t.fleet t.fleet.length := by
  unfold sureTo
  simp only [List.mem_map, List.mem_filter, List.mem_range, decide_eq_true_eq]
  constructor
  · rintro ⟨s, ⟨h1, h2⟩, rfl⟩
    refine ⟨s, rfl, h1, fun t ht => ?_⟩
    obtain ⟨i, hi, rfl⟩ := List.mem_iff_getElem.1 ht
    have := (sinkN_is h T s _).1.1 h2 i hi
    rwa [getD_any hi] at this
  · rintro ⟨s, rfl, h1, q⟩
    exact ⟨s, ⟨h1, (sinkN_is h T s _).1.2 fun i hi => by rw [getD_any hi]; exact q _ (List.getElem_mem hi)⟩, rfl⟩

theorem truths_lost {h : RHarb} {n : Int} (hn : n ≤ h.lost) {but : List Int} {t : RTru} (e : t ∈ truthsR (lostH h n) but) : t ∈ truthsR h but := by
  unfold truthsR fleetsR at *
  simp only [List.mem_map, List.mem_filter, decide_eq_true_eq] at e ⊢
  obtain ⟨f, ⟨⟨h1, h2⟩, h3⟩, h4⟩ := e
  exact ⟨f, ⟨⟨h1, Int.le_trans h2 hn⟩, h3⟩, h4⟩

theorem some_lost {h : RHarb} (hv : validB h = true) {n : Int} (hn : n ≤ h.lost) (e : someB (lostH h n) = true) : someB h = true := by
  obtain ⟨t, ht⟩ := List.exists_mem_of_ne_nil _ (some_truths e)
  unfold someB okT
  rw [hv, Bool.true_and, decide_eq_true_eq]
  exact List.length_pos_of_mem (truths_lost hn ht)

/-- With fewer Lost no ship more may sink. -/
theorem may_lost {h : RHarb} (hv : validB h = true) {n : Int} (hn : n ≤ h.lost) (e : someB (lostH h n) = true) : ∀ x ∈ (sunkR (lostH h n)).2.1, x ∈ (sunkR h).2.1 := by
  rw [sunkR_some e, sunkR_some (some_lost hv hn e)]
  intro x hx
  obtain ⟨s, q1, q2, t, ht, q3⟩ := mem_may.1 hx
  exact mem_may.2 ⟨s, q1, q2, t, truths_lost hn ht, q3⟩

theorem idxL_pos {α : Type} {p : α → Bool} : ∀ {l : List α} {i : Nat} (h : i < l.length), p l[i] = true → 0 ≤ idxL p l
  | [], i, h, _ => by simp at h
  | x :: l, i, h, q => by
    unfold idxL
    by_cases hx : p x = true
    · rw [if_pos hx]; omega
    · rw [if_neg hx]
      cases i with
      | zero => simp at q; exact absurd q hx
      | succ i =>
        have := idxL_pos (p := p) (l := l) (i := i) (by simpa using h) (by simpa using q)
        split <;> omega

theorem lostN_zero : ∀ {l : List RShip} {f : List Fate}, lostN l f ≤ 0 → ∀ s, s < l.length → s < f.length → ¬ (f[s]!).made < (l[s]!).calls.length
  | [], _, _, s, h1, _ => by simp at h1
  | _ :: _, [], _, s, _, h2 => by simp at h2
  | a :: l, x :: f, h, s, h1, h2 => by
    have q1 := lostN_nonneg l f
    have q2 := sinks_cases a x.made
    simp only [lostN] at h
    cases s with
    | zero =>
      intro q
      have q : x.made < a.calls.length := q
      unfold sinksI at q2 h
      rw [if_pos q] at q2 h
      omega
    | succ s =>
      have := lostN_zero (l := l) (f := f) (by omega) s (by simpa using h1) (by simpa using h2)
      simpa using this

theorem none_made {h : RHarb} {t : RTru} (ht : t ∈ truthsR (lostH h 0) []) {s : Nat} (h1 : s < h.ships.length) (h2 : s < t.fleet.length) : ¬ (t.fleet[s]!).made < (h.ships[s]!).calls.length := by
  unfold truthsR fleetsR at ht
  simp only [List.mem_map, List.mem_filter, decide_eq_true_eq] at ht
  obtain ⟨f, ⟨⟨_, q⟩, _⟩, rfl⟩ := ht
  exact lostN_zero q s h1 h2

/-- With none Lost no ship sinks. -/
theorem may_none {h : RHarb} (e : someB (lostH h 0) = true) : sunkR (lostH h 0) = ((sunkR (lostH h 0)).1, [], 0) := by
  have e1 := sunkR_some e
  have e2 : mayTo (lostH h 0) (truthsR (lostH h 0) []) (lostH h 0).ships.length = [] := by
    refine List.eq_nil_iff_forall_not_mem.2 fun x hx => ?_
    obtain ⟨s, q1, q2, t, ht, q3⟩ := mem_may.1 hx
    unfold lostL at q3
    simp only [List.mem_map, List.mem_filter, List.mem_range, decide_eq_true_eq] at q3
    obtain ⟨i, ⟨q3, q4⟩, q5⟩ := q3
    have : i = s := by omega
    subst this
    exact none_made ht q2 q3 q4
  rw [e1, e2]

/-- With none Lost each call that is known surely is made. -/
theorem calls_none {h : RHarb} (e : someB (lostH h 0) = true) {s : Nat} (hs : s < h.ships.length) {i : Nat} (hi : i < (h.ships[s]!).calls.length) :
    (callsR (lostH h 0) s ((h.ships[s]!).calls[i]!).port).2 = (1, 0) := by
  have hh := hok_check (some_check e)
  have hso := hh.ship s hs
  have hc : 0 ≤ ((h.ships[s]!).calls[i]!).port ∧ ((h.ships[s]!).calls[i]!).port ≤ (lostH h 0).ports - 1 := (hso.call i hi).1
  have hs' : s < (lostH h 0).ships.length := hs
  rw [callsR_some e hs' hc]
  rw [settled_must.2 ((called_is (lostH h 0) (truthsR (lostH h 0) []) s ((h.ships[s]!).calls[i]!).port _ (Nat.le_refl _)).1.2 fun k hk => ?_)]
  rw [getD_any hk]
  have ht := List.getElem_mem hk
  generalize (truthsR (lostH h 0) [])[k] = t at *
  have hf := truths_fok hh ht
  have hsf : s < t.fleet.length := by have := hf.n; omega
  have h1 := none_made ht hs hsf
  have h2 := hf.late s hsf
  have h4 := atC_lt hi
  have h5 : 0 ≤ atC (h.ships[s]!).calls ((h.ships[s]!).calls[i]!).port := by
    unfold atC
    exact idxL_pos hi (by rw [← getD_any hi]; exact decide_eq_true rfl)
  have h6 := hso.call _ (atC_in h5)
  have h7 := hso.sails
  unfold dayR
  show 0 ≤ if atC (h.ships[s]!).calls ((h.ships[s]!).calls[i]!).port < 0 ∨ (t.fleet[s]!).made ≤ atC (h.ships[s]!).calls ((h.ships[s]!).calls[i]!).port then -1 else (h.ships[s]!).sails + ((h.ships[s]!).calls[(atC (h.ships[s]!).calls ((h.ships[s]!).calls[i]!).port).toNat]!).after + (t.fleet[s]!).late
  rw [if_neg (by have := atC_in h5; omega)]
  have h6' := h6.2.1
  have h7' := h7.1
  have h8 : 1 ≤ ((h.ships[s]!).calls[(atC (h.ships[s]!).calls ((h.ships[s]!).calls[i]!).port).toNat]!).after := h6'.1
  have h9 : 0 ≤ (h.ships[s]!).sails := h7'
  omega
end Go.Proofs.Ytnfmmhmfbipkjaa.Abs

namespace Go.Proofs.Ytnfmmhmfbipkjaa.Abs
set_option linter.unusedSimpArgs false
set_option maxHeartbeats 4000000
set_option maxRecDepth 100000
open Go Go.RowKit Go.Proofs

theorem natMod3 (a : Nat) : ((a : Int) % 3) = ((a % 3 : Nat) : Int) := (Int.natCast_emod a 3).symm

theorem shipFewer_bad (h : RHarb) (hf : HFit h) (x : Nat) (e : validB h = false) : PCall Try.prog 13 [harbA h, .int .u8 x] (.bool true) := by
  intro m
  have a1 := valid_c h hf.names
  have aw := awake_c
  rw [e] at a1
  simp only [harbA, harbL, ints] at *
  (refine acall_intro (E := envC (modeAt [5, 6, 18] []) false []) (envCOk _ _ _) rfl Try.func13 rfl Try.call13 (by kernel_rfl) (by simp [Try.ntmps13]) ?_; simp only [Try.f13];  simp (maxSteps := 4000000) only [↓VP, VQ, ite_self, Nat.reduceEqDiff, Nat.reduceAdd, Nat.reduceSub, Nat.reduceMul, Nat.reduceLeDiff, Nat.reduceLT, Nat.reduceBEq, Int.reduceLE, Int.reduceLT, Int.reduceNeg, Int.reduceAdd, Int.reduceSub, Int.reduceToNat, ↓reduceIte, reduceCtorEq, ↓ixShip, ↓ixCall, ↓ixLet, ↓ixRep, Int.reduceEq])
  ((refine ACall.pure (a1) ?_; try simp (maxSteps := 4000000) only [↓VP, VQ, ite_self, Nat.reduceEqDiff, Nat.reduceAdd, Nat.reduceSub, Nat.reduceMul, Nat.reduceLeDiff, Nat.reduceLT, Nat.reduceBEq, Int.reduceLE, Int.reduceLT, Int.reduceNeg, Int.reduceAdd, Int.reduceSub, Int.reduceToNat, ↓reduceIte, reduceCtorEq, ↓ixShip, ↓ixCall, ↓ixLet, ↓ixRep]); try simp (maxSteps := 4000000) only [↓VP, VQ, ite_self, Nat.reduceEqDiff, Nat.reduceAdd, Nat.reduceSub, Nat.reduceMul, Nat.reduceLeDiff, Nat.reduceLT, Nat.reduceBEq, Int.reduceLE, Int.reduceLT, Int.reduceNeg, Int.reduceAdd, Int.reduceSub, Int.reduceToNat, ↓reduceIte, reduceCtorEq, ↓ixShip, ↓ixCall, ↓ixLet, ↓ixRep, eq_self, decide_true, decide_false, if_true, if_false, not_true_eq_false, List.append_eq])
  ((refine ACall.pure (aw) ?_; try simp (maxSteps := 4000000) only [↓VP, VQ, ite_self, Nat.reduceEqDiff, Nat.reduceAdd, Nat.reduceSub, Nat.reduceMul, Nat.reduceLeDiff, Nat.reduceLT, Nat.reduceBEq, Int.reduceLE, Int.reduceLT, Int.reduceNeg, Int.reduceAdd, Int.reduceSub, Int.reduceToNat, ↓reduceIte, reduceCtorEq, ↓ixShip, ↓ixCall, ↓ixLet, ↓ixRep]); try simp (maxSteps := 4000000) only [↓VP, VQ, ite_self, Nat.reduceEqDiff, Nat.reduceAdd, Nat.reduceSub, Nat.reduceMul, Nat.reduceLeDiff, Nat.reduceLT, Nat.reduceBEq, Int.reduceLE, Int.reduceLT, Int.reduceNeg, Int.reduceAdd, Int.reduceSub, Int.reduceToNat, ↓reduceIte, reduceCtorEq, ↓ixShip, ↓ixCall, ↓ixLet, ↓ixRep, eq_self, decide_true, decide_false, if_true, if_false, not_true_eq_false, List.append_eq])

theorem shipFewer_ok (h : RHarb) (hf : HFit h) (x : Nat) (hx : x < 256) (e : validB h = true) : PCall Try.prog 13 [harbA h, .int .u8 x] (.bool true) := by
  intro m
  have hh := hok_check (of_decide_eq_true e)
  have hl := hh.l
  have hn := hh.n
  have a1 := valid_c h hf.names
  rw [e] at a1
  have aw := awake_c
  have m3 := natMod3 x
  have hx3 : x % 3 < 3 := Nat.mod_lt _ (by decide)
  generalize x % 3 = k at *
  have hF : max 0 (h.lost - (k : Int)) ≤ h.lost := by omega
  generalize hFd : max 0 (h.lost - (k : Int)) = F at *
  have a2 := some_c (lostH h F) hf.names
  have a3 := some_c (lostH h 0) hf.names
  have s0 := sunk_top h hf.names
  have s1 := sunk_top (lostH h F) hf.names
  have s2 := sunk_top (lostH h 0) hf.names
  have sb := subset_c (sunkR (lostH h F)).2.1 (sunkR h).2.1
  have l1 : someB (lostH h F) = true → (sunkR h).2.2 = 0 ∧ (sunkR (lostH h F)).2.2 = 0 ∧ ((sunkR (lostH h F)).2.1.all fun x => decide (x ∈ (sunkR h).2.1)) = true := fun q => by
    refine ⟨by rw [sunkR_some (some_lost e hF q)], by rw [sunkR_some q], ?_⟩
    rw [List.all_eq_true]
    exact fun y hy => decide_eq_true (may_lost e hF q y hy)
  have l2 : someB (lostH h 0) = true → (sunkR (lostH h 0)).2.2 = 0 ∧ (sunkR (lostH h 0)).2.1 = [] := fun q => by
    rw [may_none q]; exact ⟨rfl, rfl⟩
  have l3 := fun (q : someB (lostH h 0) = true) (s : Nat) (hs : s < h.ships.length) (i : Nat) (hi : i < (h.ships[s]!).calls.length) => calls_none q hs hi
  have cs := fun (s i : Nat) => callsP_c (lostH h 0) hf.names s ((h.ships[s]!).calls[i]!).port hf.ports
  generalize sunkR (lostH h F) = R1 at *
  generalize sunkR (lostH h 0) = R2 at *
  generalize sunkR h = R0 at *
  generalize someB (lostH h F) = b1 at *
  generalize someB (lostH h 0) = b2 at *
  generalize (R1.2.1.all fun x => decide (x ∈ R0.2.1)) = b3 at *
  simp only [harbA, harbL, ints, lostH] at *
  (refine acall_intro (E := envC (modeAt [5, 6, 18] []) false []) (envCOk _ _ _) rfl Try.func13 rfl Try.call13 (by kernel_rfl) (by simp [Try.ntmps13]) ?_; simp only [Try.f13];  simp (maxSteps := 4000000) only [↓VP, VQ, ite_self, Nat.reduceEqDiff, Nat.reduceAdd, Nat.reduceSub, Nat.reduceMul, Nat.reduceLeDiff, Nat.reduceLT, Nat.reduceBEq, Int.reduceLE, Int.reduceLT, Int.reduceNeg, Int.reduceAdd, Int.reduceSub, Int.reduceToNat, ↓reduceIte, reduceCtorEq, ↓ixShip, ↓ixCall, ↓ixLet, ↓ixRep, Int.reduceEq])
  ((refine ACall.pure (a1) ?_; try simp (maxSteps := 4000000) only [↓VP, VQ, ite_self, Nat.reduceEqDiff, Nat.reduceAdd, Nat.reduceSub, Nat.reduceMul, Nat.reduceLeDiff, Nat.reduceLT, Nat.reduceBEq, Int.reduceLE, Int.reduceLT, Int.reduceNeg, Int.reduceAdd, Int.reduceSub, Int.reduceToNat, ↓reduceIte, reduceCtorEq, ↓ixShip, ↓ixCall, ↓ixLet, ↓ixRep]); try simp (maxSteps := 4000000) only [↓VP, VQ, ite_self, Nat.reduceEqDiff, Nat.reduceAdd, Nat.reduceSub, Nat.reduceMul, Nat.reduceLeDiff, Nat.reduceLT, Nat.reduceBEq, Int.reduceLE, Int.reduceLT, Int.reduceNeg, Int.reduceAdd, Int.reduceSub, Int.reduceToNat, ↓reduceIte, reduceCtorEq, ↓ixShip, ↓ixCall, ↓ixLet, ↓ixRep, eq_self, decide_true, decide_false, if_true, if_false, not_true_eq_false, List.append_eq])
  (refine adraw (by first | exact envOk _ | exact envCOk _ _ _) mixed [⟨true, false, 0⟩, ⟨true, false, 0⟩, ⟨true, false, 0⟩, ⟨true, false, 0⟩, ⟨false, false, 0⟩, ⟨false, false, 0⟩] (by kernel_rfl) ?_; show vcOpsD _ _ _ (_ :: _) _ _)
  simp (maxSteps := 4000000) only [↓VP, VQ, ite_self, Nat.reduceEqDiff, Nat.reduceAdd, Nat.reduceSub, Nat.reduceMul, Nat.reduceLeDiff, Nat.reduceLT, Nat.reduceBEq, Int.reduceLE, Int.reduceLT, Int.reduceNeg, Int.reduceAdd, Int.reduceSub, Int.reduceToNat, ↓reduceIte, reduceCtorEq, ↓ixShip, ↓ixCall, ↓ixLet, ↓ixRep, m3, hFd]
  repeat' (first | intro _ | refine And.intro ?_ ?_)
  all_goals try (first | omega | (simp only [List.length_map, List.length_cons, List.length_nil, List.length_append, Nat.zero_add]; omega) | exact nnC _ | exact nlC (by decide) _ | exact nbC rfl)
  ((refine ACall.pure (a2) ?_; try simp (maxSteps := 4000000) only [↓VP, VQ, ite_self, Nat.reduceEqDiff, Nat.reduceAdd, Nat.reduceSub, Nat.reduceMul, Nat.reduceLeDiff, Nat.reduceLT, Nat.reduceBEq, Int.reduceLE, Int.reduceLT, Int.reduceNeg, Int.reduceAdd, Int.reduceSub, Int.reduceToNat, ↓reduceIte, reduceCtorEq, ↓ixShip, ↓ixCall, ↓ixLet, ↓ixRep]); try simp (maxSteps := 4000000) only [↓VP, VQ, ite_self, Nat.reduceEqDiff, Nat.reduceAdd, Nat.reduceSub, Nat.reduceMul, Nat.reduceLeDiff, Nat.reduceLT, Nat.reduceBEq, Int.reduceLE, Int.reduceLT, Int.reduceNeg, Int.reduceAdd, Int.reduceSub, Int.reduceToNat, ↓reduceIte, reduceCtorEq, ↓ixShip, ↓ixCall, ↓ixLet, ↓ixRep, eq_self, decide_true, decide_false, if_true, if_false, not_true_eq_false, List.append_eq])
  repeat' (first | intro _ | refine And.intro ?_ ?_)
  all_goals try (first | omega | (simp only [List.length_map, List.length_cons, List.length_nil, List.length_append, Nat.zero_add]; omega) | exact nnC _ | exact nlC (by decide) _ | exact nbC rfl)
  · obtain ⟨f1, f2, f3⟩ := l1 (by assumption)
    ((refine ACall.pure (s0) ?_; try simp (maxSteps := 4000000) only [↓VP, VQ, ite_self, Nat.reduceEqDiff, Nat.reduceAdd, Nat.reduceSub, Nat.reduceMul, Nat.reduceLeDiff, Nat.reduceLT, Nat.reduceBEq, Int.reduceLE, Int.reduceLT, Int.reduceNeg, Int.reduceAdd, Int.reduceSub, Int.reduceToNat, ↓reduceIte, reduceCtorEq, ↓ixShip, ↓ixCall, ↓ixLet, ↓ixRep]); try simp (maxSteps := 4000000) only [↓VP, VQ, ite_self, Nat.reduceEqDiff, Nat.reduceAdd, Nat.reduceSub, Nat.reduceMul, Nat.reduceLeDiff, Nat.reduceLT, Nat.reduceBEq, Int.reduceLE, Int.reduceLT, Int.reduceNeg, Int.reduceAdd, Int.reduceSub, Int.reduceToNat, ↓reduceIte, reduceCtorEq, ↓ixShip, ↓ixCall, ↓ixLet, ↓ixRep, eq_self, decide_true, decide_false, if_true, if_false, not_true_eq_false, List.append_eq])
    (refine ACall.pure (s1) ?_; try simp (maxSteps := 4000000) only [↓VP, VQ, ite_self, Nat.reduceEqDiff, Nat.reduceAdd, Nat.reduceSub, Nat.reduceMul, Nat.reduceLeDiff, Nat.reduceLT, Nat.reduceBEq, Int.reduceLE, Int.reduceLT, Int.reduceNeg, Int.reduceAdd, Int.reduceSub, Int.reduceToNat, ↓reduceIte, reduceCtorEq, ↓ixShip, ↓ixCall, ↓ixLet, ↓ixRep, eq_self, decide_true, decide_false, if_true, if_false, not_true_eq_false, List.append_eq, f1, f2])
    (refine ACall.pure (sb) ?_; try simp (maxSteps := 4000000) only [↓VP, VQ, ite_self, Nat.reduceEqDiff, Nat.reduceAdd, Nat.reduceSub, Nat.reduceMul, Nat.reduceLeDiff, Nat.reduceLT, Nat.reduceBEq, Int.reduceLE, Int.reduceLT, Int.reduceNeg, Int.reduceAdd, Int.reduceSub, Int.reduceToNat, ↓reduceIte, reduceCtorEq, ↓ixShip, ↓ixCall, ↓ixLet, ↓ixRep, eq_self, decide_true, decide_false, if_true, if_false, not_true_eq_false, List.append_eq, f3])
    ((refine ACall.pure (a3) ?_; try simp (maxSteps := 4000000) only [↓VP, VQ, ite_self, Nat.reduceEqDiff, Nat.reduceAdd, Nat.reduceSub, Nat.reduceMul, Nat.reduceLeDiff, Nat.reduceLT, Nat.reduceBEq, Int.reduceLE, Int.reduceLT, Int.reduceNeg, Int.reduceAdd, Int.reduceSub, Int.reduceToNat, ↓reduceIte, reduceCtorEq, ↓ixShip, ↓ixCall, ↓ixLet, ↓ixRep]); try simp (maxSteps := 4000000) only [↓VP, VQ, ite_self, Nat.reduceEqDiff, Nat.reduceAdd, Nat.reduceSub, Nat.reduceMul, Nat.reduceLeDiff, Nat.reduceLT, Nat.reduceBEq, Int.reduceLE, Int.reduceLT, Int.reduceNeg, Int.reduceAdd, Int.reduceSub, Int.reduceToNat, ↓reduceIte, reduceCtorEq, ↓ixShip, ↓ixCall, ↓ixLet, ↓ixRep, eq_self, decide_true, decide_false, if_true, if_false, not_true_eq_false, List.append_eq])
    repeat' (first | intro _ | refine And.intro ?_ ?_)
    all_goals try (first | omega | (simp only [List.length_map, List.length_cons, List.length_nil, List.length_append, Nat.zero_add]; omega) | exact nnC _ | exact nlC (by decide) _ | exact nbC rfl)
    · ((refine ACall.pure (aw) ?_; try simp (maxSteps := 4000000) only [↓VP, VQ, ite_self, Nat.reduceEqDiff, Nat.reduceAdd, Nat.reduceSub, Nat.reduceMul, Nat.reduceLeDiff, Nat.reduceLT, Nat.reduceBEq, Int.reduceLE, Int.reduceLT, Int.reduceNeg, Int.reduceAdd, Int.reduceSub, Int.reduceToNat, ↓reduceIte, reduceCtorEq, ↓ixShip, ↓ixCall, ↓ixLet, ↓ixRep]); try simp (maxSteps := 4000000) only [↓VP, VQ, ite_self, Nat.reduceEqDiff, Nat.reduceAdd, Nat.reduceSub, Nat.reduceMul, Nat.reduceLeDiff, Nat.reduceLT, Nat.reduceBEq, Int.reduceLE, Int.reduceLT, Int.reduceNeg, Int.reduceAdd, Int.reduceSub, Int.reduceToNat, ↓reduceIte, reduceCtorEq, ↓ixShip, ↓ixCall, ↓ixLet, ↓ixRep, eq_self, decide_true, decide_false, if_true, if_false, not_true_eq_false, List.append_eq])
    · obtain ⟨g1, g2⟩ := l2 (by first | assumption | (rw [← Bool.not_eq_false]; assumption))
      have g3 := l3 (by first | assumption | (rw [← Bool.not_eq_false]; assumption))
      (refine ACall.pure (s2) ?_; try simp (maxSteps := 4000000) only [↓VP, VQ, ite_self, Nat.reduceEqDiff, Nat.reduceAdd, Nat.reduceSub, Nat.reduceMul, Nat.reduceLeDiff, Nat.reduceLT, Nat.reduceBEq, Int.reduceLE, Int.reduceLT, Int.reduceNeg, Int.reduceAdd, Int.reduceSub, Int.reduceToNat, ↓reduceIte, reduceCtorEq, ↓ixShip, ↓ixCall, ↓ixLet, ↓ixRep, eq_self, decide_true, decide_false, if_true, if_false, not_true_eq_false, List.append_eq, g1, g2, List.map_nil, List.length_nil])
      refine ALoop.freeze 6 ?_
      simp (maxSteps := 4000000) only [↓VP, VQ, ite_self, Nat.reduceEqDiff, Nat.reduceAdd, Nat.reduceSub, Nat.reduceMul, Nat.reduceLeDiff, Nat.reduceLT, Nat.reduceBEq, Int.reduceLE, Int.reduceLT, Int.reduceNeg, Int.reduceAdd, Int.reduceSub, Int.reduceToNat, ↓reduceIte, reduceCtorEq, ↓ixShip, ↓ixCall, ↓ixLet, ↓ixRep]
      refine aloop (envCOk _ _ _) (fun s : Nat => ⟨[(2, .v (.eptr [.int .i64 h.ports, .int .i64 h.lost, .slice 5 (h.ships.map shipA), .slice 3 (h.letters.map letA), .slice 4 (h.reports.map repA)])), (6, .v (.eptr [.int .i64 h.ports, .int .i64 0, .slice 5 (h.ships.map shipA), .slice 3 (h.letters.map letA), .slice 4 (h.reports.map repA)])), (16, .v (.int .i64 s))], [], [], m⟩)
        (fun s => s ≤ h.ships.length) (fun s => h.ships.length - s) 0 (fun _ => rfl) (by simp) (by (simp only [Fits, fitsV, fitsO, fitsL, ↓upd, ↓lookV, ↓lookO, ↓lookL, Nat.reduceEqDiff, ↓reduceIte, ints, and_true, true_and, Option.some.injEq]); simp) ?_
      intro s hsl
      have cs1 := cs s
      have g4 := g3 s
      simp (maxSteps := 4000000) only [↓VP, VQ, ite_self, Nat.reduceEqDiff, Nat.reduceAdd, Nat.reduceSub, Nat.reduceMul, Nat.reduceLeDiff, Nat.reduceLT, Nat.reduceBEq, Int.reduceLE, Int.reduceLT, Int.reduceNeg, Int.reduceAdd, Int.reduceSub, Int.reduceToNat, ↓reduceIte, reduceCtorEq, ↓ixShip, ↓ixCall, ↓ixLet, ↓ixRep]
      repeat' (first | intro _ | refine And.intro ?_ ?_)
      all_goals try (first | omega | (simp only [List.length_map, List.length_cons, List.length_nil, List.length_append, Nat.zero_add]; omega) | exact nnC _ | exact nlC (by decide) _ | exact nbC rfl)
      · have hs : s < h.ships.length := by omega
        have hso := (hh.ship s hs).n
        refine aloop (envCOk _ _ _) (fun i : Nat => ⟨[(2, .v (.eptr [.int .i64 h.ports, .int .i64 h.lost, .slice 5 (h.ships.map shipA), .slice 3 (h.letters.map letA), .slice 4 (h.reports.map repA)])), (6, .v (.eptr [.int .i64 h.ports, .int .i64 0, .slice 5 (h.ships.map shipA), .slice 3 (h.letters.map letA), .slice 4 (h.reports.map repA)])), (16, .v (.int .i64 s)), (17, .v (.int .i64 i))], [], [], m⟩)
          (fun i => i ≤ (h.ships[s]!).calls.length) (fun i => (h.ships[s]!).calls.length - i) 0 (fun _ => rfl) (by simp) (by (simp only [Fits, fitsV, fitsO, fitsL, ↓upd, ↓lookV, ↓lookO, ↓lookL, Nat.reduceEqDiff, ↓reduceIte, ints, and_true, true_and, Option.some.injEq]); simp) ?_
        intro i hi
        have cs2 := cs1 i
        simp (maxSteps := 4000000) only [↓VP, VQ, ite_self, Nat.reduceEqDiff, Nat.reduceAdd, Nat.reduceSub, Nat.reduceMul, Nat.reduceLeDiff, Nat.reduceLT, Nat.reduceBEq, Int.reduceLE, Int.reduceLT, Int.reduceNeg, Int.reduceAdd, Int.reduceSub, Int.reduceToNat, ↓reduceIte, reduceCtorEq, ↓ixShip, ↓ixCall, ↓ixLet, ↓ixRep]
        repeat' (first | intro _ | refine And.intro ?_ ?_)
        all_goals try (first | omega | (simp only [List.length_map, List.length_cons, List.length_nil, List.length_append, Nat.zero_add]; omega) | exact nnC _ | exact nlC (by decide) _ | exact nbC rfl)
        · have hic : i < (h.ships[s]!).calls.length := by omega
          have g5 := g4 hs i hic
          rw [g5] at cs2
          (refine adraw (by first | exact envOk _ | exact envCOk _ _ _) mixed [⟨true, false, 0⟩, ⟨true, false, 0⟩, ⟨true, false, 0⟩, ⟨true, false, 0⟩, ⟨true, false, 0⟩, ⟨true, false, 0⟩, ⟨true, false, 0⟩, ⟨true, false, 0⟩, ⟨true, false, 0⟩, ⟨true, false, 0⟩, ⟨true, false, 0⟩, ⟨true, false, 0⟩, ⟨true, false, 0⟩, ⟨true, false, 0⟩, ⟨true, false, 0⟩, ⟨true, false, 0⟩, ⟨true, false, 0⟩, ⟨false, false, 0⟩, ⟨false, false, 0⟩, ⟨false, false, 0⟩, ⟨false, false, 0⟩] (by kernel_rfl) ?_; show vcOpsD _ _ _ (_ :: _) _ _)
          simp (maxSteps := 4000000) only [↓VP, VQ, ite_self, Nat.reduceEqDiff, Nat.reduceAdd, Nat.reduceSub, Nat.reduceMul, Nat.reduceLeDiff, Nat.reduceLT, Nat.reduceBEq, Int.reduceLE, Int.reduceLT, Int.reduceNeg, Int.reduceAdd, Int.reduceSub, Int.reduceToNat, ↓reduceIte, reduceCtorEq, ↓ixShip, ↓ixCall, ↓ixLet, ↓ixRep]
          repeat' (first | intro _ | refine And.intro ?_ ?_)
          all_goals try (first | omega | (simp only [List.length_map, List.length_cons, List.length_nil, List.length_append, Nat.zero_add]; omega) | exact nnC _ | exact nlC (by decide) _ | exact nbC rfl)
          refine VPure.of cs2 ?_
          simp (maxSteps := 4000000) only [↓VP, VQ, ite_self, Nat.reduceEqDiff, Nat.reduceAdd, Nat.reduceSub, Nat.reduceMul, Nat.reduceLeDiff, Nat.reduceLT, Nat.reduceBEq, Int.reduceLE, Int.reduceLT, Int.reduceNeg, Int.reduceAdd, Int.reduceSub, Int.reduceToNat, ↓reduceIte, reduceCtorEq, ↓ixShip, ↓ixCall, ↓ixLet, ↓ixRep]
          repeat' (first | intro _ | refine And.intro ?_ ?_)
          all_goals try (first | omega | (simp only [List.length_map, List.length_cons, List.length_nil, List.length_append, Nat.zero_add]; omega) | exact nnC _ | exact nlC (by decide) _ | exact nbC rfl)
          (refine ⟨i + 1, by first | omega | (dsimp only; omega), by dsimp only; omega, ?_⟩; (simp only [Fits, fitsV, fitsO, fitsL, ↓upd, ↓lookV, ↓lookO, ↓lookL, Nat.reduceEqDiff, ↓reduceIte, ints, and_true, true_and, Option.some.injEq]); try simp [])
        · (refine ⟨s + 1, by first | omega | (dsimp only; omega), by dsimp only; omega, ?_⟩; (simp only [Fits, fitsV, fitsO, fitsL, ↓upd, ↓lookV, ↓lookO, ↓lookL, Nat.reduceEqDiff, ↓reduceIte, ints, and_true, true_and, Option.some.injEq]); try simp [])
      · ((refine ACall.pure (aw) ?_; try simp (maxSteps := 4000000) only [↓VP, VQ, ite_self, Nat.reduceEqDiff, Nat.reduceAdd, Nat.reduceSub, Nat.reduceMul, Nat.reduceLeDiff, Nat.reduceLT, Nat.reduceBEq, Int.reduceLE, Int.reduceLT, Int.reduceNeg, Int.reduceAdd, Int.reduceSub, Int.reduceToNat, ↓reduceIte, reduceCtorEq, ↓ixShip, ↓ixCall, ↓ixLet, ↓ixRep]); try simp (maxSteps := 4000000) only [↓VP, VQ, ite_self, Nat.reduceEqDiff, Nat.reduceAdd, Nat.reduceSub, Nat.reduceMul, Nat.reduceLeDiff, Nat.reduceLT, Nat.reduceBEq, Int.reduceLE, Int.reduceLT, Int.reduceNeg, Int.reduceAdd, Int.reduceSub, Int.reduceToNat, ↓reduceIte, reduceCtorEq, ↓ixShip, ↓ixCall, ↓ixLet, ↓ixRep, eq_self, decide_true, decide_false, if_true, if_false, not_true_eq_false, List.append_eq])
  · ((refine ACall.pure (a3) ?_; try simp (maxSteps := 4000000) only [↓VP, VQ, ite_self, Nat.reduceEqDiff, Nat.reduceAdd, Nat.reduceSub, Nat.reduceMul, Nat.reduceLeDiff, Nat.reduceLT, Nat.reduceBEq, Int.reduceLE, Int.reduceLT, Int.reduceNeg, Int.reduceAdd, Int.reduceSub, Int.reduceToNat, ↓reduceIte, reduceCtorEq, ↓ixShip, ↓ixCall, ↓ixLet, ↓ixRep]); try simp (maxSteps := 4000000) only [↓VP, VQ, ite_self, Nat.reduceEqDiff, Nat.reduceAdd, Nat.reduceSub, Nat.reduceMul, Nat.reduceLeDiff, Nat.reduceLT, Nat.reduceBEq, Int.reduceLE, Int.reduceLT, Int.reduceNeg, Int.reduceAdd, Int.reduceSub, Int.reduceToNat, ↓reduceIte, reduceCtorEq, ↓ixShip, ↓ixCall, ↓ixLet, ↓ixRep, eq_self, decide_true, decide_false, if_true, if_false, not_true_eq_false, List.append_eq])
    repeat' (first | intro _ | refine And.intro ?_ ?_)
    all_goals try (first | omega | (simp only [List.length_map, List.length_cons, List.length_nil, List.length_append, Nat.zero_add]; omega) | exact nnC _ | exact nlC (by decide) _ | exact nbC rfl)
    · ((refine ACall.pure (aw) ?_; try simp (maxSteps := 4000000) only [↓VP, VQ, ite_self, Nat.reduceEqDiff, Nat.reduceAdd, Nat.reduceSub, Nat.reduceMul, Nat.reduceLeDiff, Nat.reduceLT, Nat.reduceBEq, Int.reduceLE, Int.reduceLT, Int.reduceNeg, Int.reduceAdd, Int.reduceSub, Int.reduceToNat, ↓reduceIte, reduceCtorEq, ↓ixShip, ↓ixCall, ↓ixLet, ↓ixRep]); try simp (maxSteps := 4000000) only [↓VP, VQ, ite_self, Nat.reduceEqDiff, Nat.reduceAdd, Nat.reduceSub, Nat.reduceMul, Nat.reduceLeDiff, Nat.reduceLT, Nat.reduceBEq, Int.reduceLE, Int.reduceLT, Int.reduceNeg, Int.reduceAdd, Int.reduceSub, Int.reduceToNat, ↓reduceIte, reduceCtorEq, ↓ixShip, ↓ixCall, ↓ixLet, ↓ixRep, eq_self, decide_true, decide_false, if_true, if_false, not_true_eq_false, List.append_eq])
    · obtain ⟨g1, g2⟩ := l2 (by first | assumption | (rw [← Bool.not_eq_false]; assumption))
      have g3 := l3 (by first | assumption | (rw [← Bool.not_eq_false]; assumption))
      (refine ACall.pure (s2) ?_; try simp (maxSteps := 4000000) only [↓VP, VQ, ite_self, Nat.reduceEqDiff, Nat.reduceAdd, Nat.reduceSub, Nat.reduceMul, Nat.reduceLeDiff, Nat.reduceLT, Nat.reduceBEq, Int.reduceLE, Int.reduceLT, Int.reduceNeg, Int.reduceAdd, Int.reduceSub, Int.reduceToNat, ↓reduceIte, reduceCtorEq, ↓ixShip, ↓ixCall, ↓ixLet, ↓ixRep, eq_self, decide_true, decide_false, if_true, if_false, not_true_eq_false, List.append_eq, g1, g2, List.map_nil, List.length_nil])
      refine ALoop.freeze 6 ?_
      simp (maxSteps := 4000000) only [↓VP, VQ, ite_self, Nat.reduceEqDiff, Nat.reduceAdd, Nat.reduceSub, Nat.reduceMul, Nat.reduceLeDiff, Nat.reduceLT, Nat.reduceBEq, Int.reduceLE, Int.reduceLT, Int.reduceNeg, Int.reduceAdd, Int.reduceSub, Int.reduceToNat, ↓reduceIte, reduceCtorEq, ↓ixShip, ↓ixCall, ↓ixLet, ↓ixRep]
      refine aloop (envCOk _ _ _) (fun s : Nat => ⟨[(2, .v (.eptr [.int .i64 h.ports, .int .i64 h.lost, .slice 5 (h.ships.map shipA), .slice 3 (h.letters.map letA), .slice 4 (h.reports.map repA)])), (6, .v (.eptr [.int .i64 h.ports, .int .i64 0, .slice 5 (h.ships.map shipA), .slice 3 (h.letters.map letA), .slice 4 (h.reports.map repA)])), (16, .v (.int .i64 s))], [], [], m⟩)
        (fun s => s ≤ h.ships.length) (fun s => h.ships.length - s) 0 (fun _ => rfl) (by simp) (by (simp only [Fits, fitsV, fitsO, fitsL, ↓upd, ↓lookV, ↓lookO, ↓lookL, Nat.reduceEqDiff, ↓reduceIte, ints, and_true, true_and, Option.some.injEq]); simp) ?_
      intro s hsl
      have cs1 := cs s
      have g4 := g3 s
      simp (maxSteps := 4000000) only [↓VP, VQ, ite_self, Nat.reduceEqDiff, Nat.reduceAdd, Nat.reduceSub, Nat.reduceMul, Nat.reduceLeDiff, Nat.reduceLT, Nat.reduceBEq, Int.reduceLE, Int.reduceLT, Int.reduceNeg, Int.reduceAdd, Int.reduceSub, Int.reduceToNat, ↓reduceIte, reduceCtorEq, ↓ixShip, ↓ixCall, ↓ixLet, ↓ixRep]
      repeat' (first | intro _ | refine And.intro ?_ ?_)
      all_goals try (first | omega | (simp only [List.length_map, List.length_cons, List.length_nil, List.length_append, Nat.zero_add]; omega) | exact nnC _ | exact nlC (by decide) _ | exact nbC rfl)
      · have hs : s < h.ships.length := by omega
        have hso := (hh.ship s hs).n
        refine aloop (envCOk _ _ _) (fun i : Nat => ⟨[(2, .v (.eptr [.int .i64 h.ports, .int .i64 h.lost, .slice 5 (h.ships.map shipA), .slice 3 (h.letters.map letA), .slice 4 (h.reports.map repA)])), (6, .v (.eptr [.int .i64 h.ports, .int .i64 0, .slice 5 (h.ships.map shipA), .slice 3 (h.letters.map letA), .slice 4 (h.reports.map repA)])), (16, .v (.int .i64 s)), (17, .v (.int .i64 i))], [], [], m⟩)
          (fun i => i ≤ (h.ships[s]!).calls.length) (fun i => (h.ships[s]!).calls.length - i) 0 (fun _ => rfl) (by simp) (by (simp only [Fits, fitsV, fitsO, fitsL, ↓upd, ↓lookV, ↓lookO, ↓lookL, Nat.reduceEqDiff, ↓reduceIte, ints, and_true, true_and, Option.some.injEq]); simp) ?_
        intro i hi
        have cs2 := cs1 i
        simp (maxSteps := 4000000) only [↓VP, VQ, ite_self, Nat.reduceEqDiff, Nat.reduceAdd, Nat.reduceSub, Nat.reduceMul, Nat.reduceLeDiff, Nat.reduceLT, Nat.reduceBEq, Int.reduceLE, Int.reduceLT, Int.reduceNeg, Int.reduceAdd, Int.reduceSub, Int.reduceToNat, ↓reduceIte, reduceCtorEq, ↓ixShip, ↓ixCall, ↓ixLet, ↓ixRep]
        repeat' (first | intro _ | refine And.intro ?_ ?_)
        all_goals try (first | omega | (simp only [List.length_map, List.length_cons, List.length_nil, List.length_append, Nat.zero_add]; omega) | exact nnC _ | exact nlC (by decide) _ | exact nbC rfl)
        · have hic : i < (h.ships[s]!).calls.length := by omega
          have g5 := g4 hs i hic
          rw [g5] at cs2
          (refine adraw (by first | exact envOk _ | exact envCOk _ _ _) mixed [⟨true, false, 0⟩, ⟨true, false, 0⟩, ⟨true, false, 0⟩, ⟨true, false, 0⟩, ⟨true, false, 0⟩, ⟨true, false, 0⟩, ⟨true, false, 0⟩, ⟨true, false, 0⟩, ⟨true, false, 0⟩, ⟨true, false, 0⟩, ⟨true, false, 0⟩, ⟨true, false, 0⟩, ⟨true, false, 0⟩, ⟨true, false, 0⟩, ⟨true, false, 0⟩, ⟨true, false, 0⟩, ⟨true, false, 0⟩, ⟨false, false, 0⟩, ⟨false, false, 0⟩, ⟨false, false, 0⟩, ⟨false, false, 0⟩] (by kernel_rfl) ?_; show vcOpsD _ _ _ (_ :: _) _ _)
          simp (maxSteps := 4000000) only [↓VP, VQ, ite_self, Nat.reduceEqDiff, Nat.reduceAdd, Nat.reduceSub, Nat.reduceMul, Nat.reduceLeDiff, Nat.reduceLT, Nat.reduceBEq, Int.reduceLE, Int.reduceLT, Int.reduceNeg, Int.reduceAdd, Int.reduceSub, Int.reduceToNat, ↓reduceIte, reduceCtorEq, ↓ixShip, ↓ixCall, ↓ixLet, ↓ixRep]
          repeat' (first | intro _ | refine And.intro ?_ ?_)
          all_goals try (first | omega | (simp only [List.length_map, List.length_cons, List.length_nil, List.length_append, Nat.zero_add]; omega) | exact nnC _ | exact nlC (by decide) _ | exact nbC rfl)
          refine VPure.of cs2 ?_
          simp (maxSteps := 4000000) only [↓VP, VQ, ite_self, Nat.reduceEqDiff, Nat.reduceAdd, Nat.reduceSub, Nat.reduceMul, Nat.reduceLeDiff, Nat.reduceLT, Nat.reduceBEq, Int.reduceLE, Int.reduceLT, Int.reduceNeg, Int.reduceAdd, Int.reduceSub, Int.reduceToNat, ↓reduceIte, reduceCtorEq, ↓ixShip, ↓ixCall, ↓ixLet, ↓ixRep]
          repeat' (first | intro _ | refine And.intro ?_ ?_)
          all_goals try (first | omega | (simp only [List.length_map, List.length_cons, List.length_nil, List.length_append, Nat.zero_add]; omega) | exact nnC _ | exact nlC (by decide) _ | exact nbC rfl)
          (refine ⟨i + 1, by first | omega | (dsimp only; omega), by dsimp only; omega, ?_⟩; (simp only [Fits, fitsV, fitsO, fitsL, ↓upd, ↓lookV, ↓lookO, ↓lookL, Nat.reduceEqDiff, ↓reduceIte, ints, and_true, true_and, Option.some.injEq]); try simp [])
        · (refine ⟨s + 1, by first | omega | (dsimp only; omega), by dsimp only; omega, ?_⟩; (simp only [Fits, fitsV, fitsO, fitsL, ↓upd, ↓lookV, ↓lookO, ↓lookL, Nat.reduceEqDiff, ↓reduceIte, ints, and_true, true_and, Option.some.injEq]); try simp [])
      · ((refine ACall.pure (aw) ?_; try simp (maxSteps := 4000000) only [↓VP, VQ, ite_self, Nat.reduceEqDiff, Nat.reduceAdd, Nat.reduceSub, Nat.reduceMul, Nat.reduceLeDiff, Nat.reduceLT, Nat.reduceBEq, Int.reduceLE, Int.reduceLT, Int.reduceNeg, Int.reduceAdd, Int.reduceSub, Int.reduceToNat, ↓reduceIte, reduceCtorEq, ↓ixShip, ↓ixCall, ↓ixLet, ↓ixRep]); try simp (maxSteps := 4000000) only [↓VP, VQ, ite_self, Nat.reduceEqDiff, Nat.reduceAdd, Nat.reduceSub, Nat.reduceMul, Nat.reduceLeDiff, Nat.reduceLT, Nat.reduceBEq, Int.reduceLE, Int.reduceLT, Int.reduceNeg, Int.reduceAdd, Int.reduceSub, Int.reduceToNat, ↓reduceIte, reduceCtorEq, ↓ixShip, ↓ixCall, ↓ixLet, ↓ixRep, eq_self, decide_true, decide_false, if_true, if_false, not_true_eq_false, List.append_eq])

theorem shipFewer_c (h : RHarb) (hf : HFit h) (x : Nat) (hx : x < 256) : PCall Try.prog 13 [harbA h, .int .u8 x] (.bool true) := by
  by_cases e : validB h = true
  · exact shipFewer_ok h hf x hx e
  · exact shipFewer_bad h hf x (by simpa using e)
end Go.Proofs.Ytnfmmhmfbipkjaa.Abs

namespace Go.Proofs.Ytnfmmhmfbipkjaa
set_option linter.unusedSimpArgs false
open Go Go.RowKit Go.Proofs Abs
set_option maxRecDepth 100000

theorem shipFewer_types : LawTypes Try.prog Try.f13 [26, 5] 4 7 := by
  refine ⟨by rw [Try.params13], by kernel_rfl, Try.underlying4, laid_ok, fun t h => ?_⟩
  simp only [List.mem_cons, List.not_mem_nil, or_false] at h
  rcases h with rfl | rfl
  · exact plain26
  · exact plain5

theorem shipFewer_all (xs : List AV) (h : GoodAll Try.prog [26, 5] xs) : ∃ K : AV → Mem → Prop, ACall Try.prog 13 xs (fun _ => .none) K ∧ ∀ r m, K r m → r = .bool true := by
  match xs, h with
  | [a0, a1], ⟨⟨l0, g0, h0⟩, ⟨l1, g1, h1⟩, _⟩ =>
    obtain ⟨h, hh, e0⟩ := open_harbour g0
    obtain ⟨x, e1, hx⟩ := open_byte g1
    rw [h0, e0, h1, e1]
    exact ⟨_, shipFewer_c h hh x hx _, fun r m h => h.1⟩

theorem shipFewer_lifted (os : Os) (started : os.Started) (H : Type) (enc : TypeId × Value → H) :
    ReturnsInHanded {} Try.checked os 13 .any (Rows.shipFewerSpec.pre6 enc Try.prog Try.f13 Rows.shipFewerRow.domain false) (Rows.shipFewerSpec.post enc Try.prog Try.f13 false true false false) := by
  refine returnsInHanded_of_change (C := Try.checked) own_ok started (by kernel_rfl) Try.func13
    (ChangeSpec.witness6 (enc := enc) (C := Try.checked) false ⟨#[], #[.agg #[.int .i64 0, .int .i64 0, .slice .none 0 0, .slice .none 0 0, .slice .none 0 0], .int .u8 0], []⟩ 8 (by kernel_rfl) (by kernel_rfl) (by kernel_rfl) (by kernel_rfl)) ?_
  intro W base args ds gs before hval hW _ _
  refine law_contract shipFewer_types rfl (fun ds hds => ?_) shipFewer_all W base args ds gs before hval hW
  match ds, hds with
  | [d0, d1], _ => rfl

theorem shipFewer_holds : Rows.ShipFewerSaid :=
  OpenClaim.holds_of_wide 13 Try.f13 rfl rfl rfl rfl rfl rfl rfl ⟨rfl, rfl, rfl, rfl, rfl⟩ rfl rfl rfl rfl rfl (by kernel_rfl) Try.func13 (by kernel_rfl)
    (of_decide_eq_true (by kernel_rfl)) (by unfold Func.isWrapper; first | (rw [if_pos (by decide +kernel)]; kernel_rfl) | (rw [if_neg (by decide +kernel)]; exact ⟨rfl, rfl⟩))
    (fun os started H enc _ => shipFewer_lifted os started H enc)
end Go.Proofs.Ytnfmmhmfbipkjaa
