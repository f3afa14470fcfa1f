/- Lemmas for the statements of this seat (W11): they hold without conditions beyond those that each one states. -/
import Derived.Test.YtnfmmhmfbipkjaaW10
import Derived.Test.YtnfmmhmfbipkjaaW7
import Derived.Test.YtnfmmhmfbipkjaaW2
import Derived.Test.YtnfmmhmfbipkjaaW3
/- Laws and contracts: the order of lists; the fewest reports. -/
namespace Go.Proofs.Ytnfmmhmfbipkjaa.Abs
set_option linter.unusedSimpArgs false
set_option maxHeartbeats 4000000
set_option maxRecDepth 100000
open Go Go.RowKit Go.Proofs

/-- Which of two lists comes first: below 0: the first one. -/
def lexC : List Int → List Int → Int
  | [], [] => 0
  | [], _ :: _ => -1
  | _ :: _, [] => 1
  | x :: l, y :: l' => if x < y then -1 else if y < x then 1 else lexC l l'

theorem isnan_c (a : Int) : PCall Try.prog 152 [.int .i64 a] (.bool false) := by
  intro m
  (refine acall_intro (E := env fun _ => .imm) (envOk _) rfl Try.func152 rfl Try.call152 (by kernel_rfl) (by simp [Try.ntmps152]) ?_; simp only [Try.f152];  simp (maxSteps := 4000000) only [↓VP, VQ, ite_self, Nat.reduceEqDiff, Nat.reduceAdd, Nat.reduceSub, Nat.reduceMul, Nat.reduceLeDiff, Nat.reduceLT, Nat.reduceBEq, Int.reduceLE, Int.reduceLT, Int.reduceNeg, Int.reduceAdd, Int.reduceSub, Int.reduceToNat, ↓reduceIte, reduceCtorEq, ↓ixShip, ↓ixCall, ↓ixLet, ↓ixRep])
  try simp

theorem cmp_c (a b : Int) : PCall Try.prog 136 [.int .i64 a, .int .i64 b] (.int .i64 (if a < b then -1 else if b < a then 1 else 0)) := by
  intro m
  have h1 := isnan_c a
  have h2 := isnan_c b
  (refine acall_intro (E := env fun _ => .imm) (envOk _) rfl Try.func136 rfl Try.call136 (by kernel_rfl) (by simp [Try.ntmps136]) ?_; simp only [Try.f136];  simp (maxSteps := 4000000) only [↓VP, VQ, ite_self, Nat.reduceEqDiff, Nat.reduceAdd, Nat.reduceSub, Nat.reduceMul, Nat.reduceLeDiff, Nat.reduceLT, Nat.reduceBEq, Int.reduceLE, Int.reduceLT, Int.reduceNeg, Int.reduceAdd, Int.reduceSub, Int.reduceToNat, ↓reduceIte, reduceCtorEq, ↓ixShip, ↓ixCall, ↓ixLet, ↓ixRep])
  ((refine ACall.pure (h1) ?_; try simp (maxSteps := 4000000) only [↓VP, VQ, ite_self, Nat.reduceEqDiff, Nat.reduceAdd, Nat.reduceSub, Nat.reduceMul, Nat.reduceLeDiff, Nat.reduceLT, Nat.reduceBEq, Int.reduceLE, Int.reduceLT, Int.reduceNeg, Int.reduceAdd, Int.reduceSub, Int.reduceToNat, ↓reduceIte, reduceCtorEq, ↓ixShip, ↓ixCall, ↓ixLet, ↓ixRep]); try simp (maxSteps := 4000000) only [↓VP, VQ, ite_self, Nat.reduceEqDiff, Nat.reduceAdd, Nat.reduceSub, Nat.reduceMul, Nat.reduceLeDiff, Nat.reduceLT, Nat.reduceBEq, Int.reduceLE, Int.reduceLT, Int.reduceNeg, Int.reduceAdd, Int.reduceSub, Int.reduceToNat, ↓reduceIte, reduceCtorEq, ↓ixShip, ↓ixCall, ↓ixLet, ↓ixRep, eq_self, decide_true, decide_false, if_true, if_false, not_true_eq_false, List.append_eq])
  ((refine ACall.pure (h2) ?_; try simp (maxSteps := 4000000) only [↓VP, VQ, ite_self, Nat.reduceEqDiff, Nat.reduceAdd, Nat.reduceSub, Nat.reduceMul, Nat.reduceLeDiff, Nat.reduceLT, Nat.reduceBEq, Int.reduceLE, Int.reduceLT, Int.reduceNeg, Int.reduceAdd, Int.reduceSub, Int.reduceToNat, ↓reduceIte, reduceCtorEq, ↓ixShip, ↓ixCall, ↓ixLet, ↓ixRep]); try simp (maxSteps := 4000000) only [↓VP, VQ, ite_self, Nat.reduceEqDiff, Nat.reduceAdd, Nat.reduceSub, Nat.reduceMul, Nat.reduceLeDiff, Nat.reduceLT, Nat.reduceBEq, Int.reduceLE, Int.reduceLT, Int.reduceNeg, Int.reduceAdd, Int.reduceSub, Int.reduceToNat, ↓reduceIte, reduceCtorEq, ↓ixShip, ↓ixCall, ↓ixLet, ↓ixRep, eq_self, decide_true, decide_false, if_true, if_false, not_true_eq_false, List.append_eq])
  repeat' (first | intro _ | refine And.intro ?_ ?_)
  · rw [if_pos (by assumption)]
  · rw [if_neg (by assumption), if_pos (by assumption)]
  · rw [if_neg (by assumption), if_neg (by assumption)]

theorem compare_c (a b : List Int) : PCall Try.prog 94 [ints a, ints b] (.int .i64 (lexC a b)) := by
  intro m
  have hc := cmp_c
  simp only [ints]
  (refine acall_len Try.call94 fun hlen => ?_; refine acall_intro (E := env fun _ => .imm) (envOk _) rfl Try.func94 rfl Try.call94 (by kernel_rfl) (by simp [Try.ntmps94]) ?_; simp only [Try.f94];  simp (maxSteps := 4000000) only [↓VP, VQ, ite_self, Nat.reduceEqDiff, Nat.reduceAdd, Nat.reduceSub, Nat.reduceMul, Nat.reduceLeDiff, Nat.reduceLT, Nat.reduceBEq, Int.reduceLE, Int.reduceLT, Int.reduceNeg, Int.reduceAdd, Int.reduceSub, Int.reduceToNat, ↓reduceIte, reduceCtorEq, ↓ixShip, ↓ixCall, ↓ixLet, ↓ixRep])
  simp only [lenOk_cons, lenOk_nil, List.length_map, and_true, maxLen_eq] at hlen
  obtain ⟨hla, hlb⟩ := hlen
  repeat' (first | intro _ | refine And.intro ?_ ?_)
  refine aloop (envOk _) (fun k : Nat => ⟨[(0, .v (.slice 1 (a.map (AV.int .i64)))), (1, .v (.slice 1 (b.map (AV.int .i64)))), (9, .v (.slice 1 (a.map (AV.int .i64)))), (10, .v (.int .i64 a.length)), (11, .v (.int .i64 k))], [], [], m⟩)
    (fun k => (k ≤ a.length ∧ k ≤ b.length) ∧ lexC (a.drop k) (b.drop k) = lexC a b) (fun k => a.length - k) 0 (fun _ => rfl) (by simp) (by (simp only [Fits, fitsV, fitsO, fitsL, ↓upd, ↓lookV, ↓lookO, ↓lookL, Nat.reduceEqDiff, ↓reduceIte, ints, and_true, true_and, Option.some.injEq]); simp) ?_
  rintro k ⟨⟨hk1, hk2⟩, hk⟩
  simp (maxSteps := 4000000) only [↓VP, VQ, ite_self, Nat.reduceEqDiff, Nat.reduceAdd, Nat.reduceSub, Nat.reduceMul, Nat.reduceLeDiff, Nat.reduceLT, Nat.reduceBEq, Int.reduceLE, Int.reduceLT, Int.reduceNeg, Int.reduceAdd, Int.reduceSub, Int.reduceToNat, ↓reduceIte, reduceCtorEq, ↓ixShip, ↓ixCall, ↓ixLet, ↓ixRep, ↓ixZ]
  repeat' (first | intro _ | refine And.intro ?_ ?_)
  all_goals try omega
  · have h1 : k < a.length := by omega
    rw [List.drop_eq_getElem_cons h1, List.drop_eq_nil_of_le (show b.length ≤ k by omega)] at hk
    rw [← hk]; rfl
  · have h1 : k < a.length := by omega
    have h2 : k < b.length := by omega
    rw [List.drop_eq_getElem_cons h1, List.drop_eq_getElem_cons h2] at hk
    have hc' := hc a[k]! b[k]!
    rw [getD_any h1, getD_any h2] at hc' ⊢
    have hstep : lexC (a[k] :: a.drop (k + 1)) (b[k] :: b.drop (k + 1)) = if a[k] < b[k] then -1 else if b[k] < a[k] then 1 else lexC (a.drop (k + 1)) (b.drop (k + 1)) := rfl
    rw [hstep] at hk
    refine ACall.pure hc' ?_
    simp (maxSteps := 4000000) only [↓VP, VQ, ite_self, Nat.reduceEqDiff, Nat.reduceAdd, Nat.reduceSub, Nat.reduceMul, Nat.reduceLeDiff, Nat.reduceLT, Nat.reduceBEq, Int.reduceLE, Int.reduceLT, Int.reduceNeg, Int.reduceAdd, Int.reduceSub, Int.reduceToNat, ↓reduceIte, reduceCtorEq, ↓ixShip, ↓ixCall, ↓ixLet, ↓ixRep]
    repeat' (first | intro _ | refine And.intro ?_ ?_)
    all_goals try omega
    · by_cases q1 : a[k] < b[k]
      · rw [if_pos q1] at hk ⊢; rw [← hk]
      · rw [if_neg q1] at hk ⊢
        by_cases q2 : b[k] < a[k]
        · rw [if_pos q2] at hk ⊢; rw [← hk]
        · rename_i hne
          rw [if_neg q1, if_neg q2] at hne
          exact absurd rfl hne
    · rename_i hne
      have q1 : ¬ a[k] < b[k] := fun q => hne (by rw [if_pos q]; decide)
      have q2 : ¬ b[k] < a[k] := fun q => hne (by rw [if_neg q1, if_pos q]; decide)
      rw [if_neg q1, if_neg q2] at hk
      refine ⟨k + 1, ⟨⟨by omega, by omega⟩, hk⟩, by dsimp only; omega, ?_⟩
      (simp only [Fits, fitsV, fitsO, fitsL, ↓upd, ↓lookV, ↓lookO, ↓lookL, Nat.reduceEqDiff, ↓reduceIte, ints, and_true, true_and, Option.some.injEq])
      simp
  · have e : k = a.length := by omega
    have h2 : k < b.length := by omega
    rw [List.drop_eq_nil_of_le (show a.length ≤ k by omega), List.drop_eq_getElem_cons h2] at hk
    rw [← hk]; rfl
  · rw [List.drop_eq_nil_of_le (show a.length ≤ k by omega), List.drop_eq_nil_of_le (show b.length ≤ k by omega)] at hk
    rw [← hk]; rfl
end Go.Proofs.Ytnfmmhmfbipkjaa.Abs

/- Laws: the fewest reports without which there is a truth. -/
namespace Go.Proofs.Ytnfmmhmfbipkjaa.Abs
set_option linter.unusedSimpArgs false
open Go Go.RowKit Go.Proofs

/-- Does a list come behind another one? -/
def ordB (l b : List Int) : Bool := decide (b.length < l.length) || (decide (l.length = b.length) && decide (0 < lexC l b))

/-- All choices of reports, the fewest first. -/
def allChoices (n : Nat) : List (List Int) := (List.range' 0 (n + 1)).flatMap (choicesL n)

/-- The best set of the first k ones. -/
def bestTo (h : RHarb) : Nat → Option (List Int)
  | 0 => none
  | k + 1 => match bestTo h k with
    | none => if anyT h k = true then some (listTo k h.reports.length) else none
    | some b => if ordB (listTo k h.reports.length) b = true then some b else if anyT h k = true then some (listTo k h.reports.length) else some b

def choicesOk (n : Nat) : Bool := ((allChoices n).all fun c => (List.range (2 ^ n)).any fun s => listTo s n == c) && ((List.range (2 ^ n)).all fun s => (allChoices n).contains (listTo s n)) &&
  ((List.range (2 ^ n)).all fun s => (List.range (2 ^ n)).all fun t => ordB (listTo s n) (listTo t n) == decide ((allChoices n).idxOf (listTo t n) < (allChoices n).idxOf (listTo s n)))

theorem choices_ok0 : choicesOk 0 = true := by decide +kernel
theorem choices_ok1 : choicesOk 1 = true := by decide +kernel
theorem choices_ok2 : choicesOk 2 = true := by decide +kernel
theorem choices_ok3 : choicesOk 3 = true := by decide +kernel
theorem choices_ok4 : choicesOk 4 = true := by decide +kernel
theorem choices_ok5 : choicesOk 5 = true := by decide +kernel

theorem choices_ok {n : Nat} (hn : n < 6) : choicesOk n = true := by
  have : n = 0 ∨ n = 1 ∨ n = 2 ∨ n = 3 ∨ n = 4 ∨ n = 5 := by omega
  rcases this with rfl | rfl | rfl | rfl | rfl | rfl
  · exact choices_ok0
  · exact choices_ok1
  · exact choices_ok2
  · exact choices_ok3
  · exact choices_ok4
  · exact choices_ok5

structure Ranks (n : Nat) : Prop where
  a : ∀ c ∈ allChoices n, ∃ s, s < 2 ^ n ∧ c = listTo s n
  b : ∀ s, s < 2 ^ n → listTo s n ∈ allChoices n
  c : ∀ s t, s < 2 ^ n → t < 2 ^ n → ordB (listTo s n) (listTo t n) = decide ((allChoices n).idxOf (listTo t n) < (allChoices n).idxOf (listTo s n))

theorem ranks {n : Nat} (hn : n < 6) : Ranks n := by
  have h := choices_ok hn
  unfold choicesOk at h
  simp only [Bool.and_eq_true, List.all_eq_true, List.any_eq_true, List.mem_range, beq_iff_eq, List.contains_iff_mem] at h
  obtain ⟨⟨h1, h2⟩, h3⟩ := h
  refine ⟨fun c hc => ?_, h2, fun s t hs ht => h3 s hs t ht⟩
  obtain ⟨s, hs, e⟩ := h1 c hc
  exact ⟨s, hs, e.symm⟩

theorem idx_ne {x b : List Int} (l : List (List Int)) (h : x ≠ b) : (x :: l).idxOf b = l.idxOf b + 1 := by
  rw [List.idxOf_cons, show (x == b) = false from beq_eq_false_iff_ne.2 h]; rfl

theorem find_min {p : List Int → Bool} {b : List Int} : ∀ {l : List (List Int)}, b ∈ l → p b = true → (∀ c ∈ l, p c = true → l.idxOf b ≤ l.idxOf c) → l.find? p = some b
  | [], hb, _, _ => by simp at hb
  | x :: l, hb, hp, hm => by
    by_cases q : p x = true
    · rw [List.find?_cons_of_pos q]
      have := hm x (by simp) q
      rw [List.idxOf_cons_self] at this
      by_cases e : x = b
      · rw [e]
      · rw [idx_ne _ e] at this; omega
    · have hne : x ≠ b := fun e => q (by rw [e]; exact hp)
      rw [List.find?_cons_of_neg q]
      refine find_min (by rcases List.mem_cons.1 hb with e | e; exact absurd e.symm hne; exact e) hp fun c hc hpc => ?_
      have hcx : x ≠ c := fun e => q (by rw [e]; exact hpc)
      have := hm c (by simp [hc]) hpc
      rw [idx_ne _ hne, idx_ne _ hcx] at this
      omega

theorem best_is (h : RHarb) (hr : h.reports.length < 6) : ∀ k, k ≤ 2 ^ h.reports.length → match bestTo h k with
    | none => ∀ s, s < k → anyT h s = false
    | some b => ∃ s, s < k ∧ b = listTo s h.reports.length ∧ anyT h s = true ∧ ∀ t, t < k → anyT h t = true → (allChoices h.reports.length).idxOf b ≤ (allChoices h.reports.length).idxOf (listTo t h.reports.length)
  | 0, _ => by simp [bestTo]
  | k + 1, hk => by
    have R := ranks hr
    have ih := best_is h hr k (by omega)
    unfold bestTo
    cases hb : bestTo h k with
    | none =>
      rw [hb] at ih
      simp only at ih ⊢
      by_cases q : anyT h k = true
      · rw [if_pos q]
        refine ⟨k, by omega, rfl, q, fun t ht hq => ?_⟩
        by_cases e : t = k
        · rw [e]; exact Nat.le_refl _
        · rw [ih t (by omega)] at hq; cases hq
      · rw [if_neg q]
        intro s hs
        by_cases e : s = k
        · rw [e]; exact Bool.eq_false_iff.2 q
        · exact ih s (by omega)
    | some b =>
      rw [hb] at ih
      simp only at ih ⊢
      obtain ⟨s, hs, rfl, ho, hm⟩ := ih
      have hc := R.c k s (by omega) (by omega)
      by_cases q : ordB (listTo k h.reports.length) (listTo s h.reports.length) = true
      · rw [if_pos q]
        rw [q] at hc
        have hc := of_decide_eq_true hc.symm
        refine ⟨s, by omega, rfl, ho, fun t ht hq => ?_⟩
        by_cases e : t = k
        · rw [e]; omega
        · exact hm t (by omega) hq
      · rw [if_neg q]
        have hc : ¬ (allChoices h.reports.length).idxOf (listTo s h.reports.length) < (allChoices h.reports.length).idxOf (listTo k h.reports.length) := by
          rw [Bool.not_eq_true] at q
          rw [q] at hc
          exact of_decide_eq_false hc.symm
        by_cases q2 : anyT h k = true
        · rw [if_pos q2]
          refine ⟨k, by omega, rfl, q2, fun t ht hq => ?_⟩
          by_cases e : t = k
          · rw [e]; exact Nat.le_refl _
          · have := hm t (by omega) hq; omega
        · rw [if_neg q2]
          refine ⟨s, by omega, rfl, ho, fun t ht hq => ?_⟩
          by_cases e : t = k
          · rw [e] at hq; exact absurd hq q2
          · exact hm t (by omega) hq

theorem wrong_same {h : RHarb} (hh : HOk h) : bestTo h (2 ^ h.reports.length) = wrongFrom h 0 := by
  have hr : h.reports.length < 6 := by have := hh.nr; omega
  have R := ranks hr
  have hb := best_is h hr _ (Nat.le_refl _)
  have ha : ∀ s, anyT h s = okT h (listTo s h.reports.length) := fun s => any_truth hh s
  unfold wrongFrom
  change _ = (allChoices h.reports.length).find? (okT h)
  cases hB : bestTo h (2 ^ h.reports.length) with
  | none =>
    rw [hB] at hb
    simp only at hb
    symm
    rw [List.find?_eq_none]
    intro c hc
    obtain ⟨s, hs, rfl⟩ := R.a c hc
    rw [← ha, hb s hs]; simp
  | some b =>
    rw [hB] at hb
    simp only at hb
    obtain ⟨s, hs, rfl, ho, hm⟩ := hb
    symm
    refine find_min (R.b s hs) (by rw [← ha]; exact ho) fun c hc hq => ?_
    obtain ⟨t, ht, rfl⟩ := R.a c hc
    exact hm t ht (by rw [ha]; exact hq)
end Go.Proofs.Ytnfmmhmfbipkjaa.Abs

/- Contracts: Wrong. -/
namespace Go.Proofs.Ytnfmmhmfbipkjaa.Abs
set_option linter.unusedSimpArgs false
set_option maxHeartbeats 4000000
set_option maxRecDepth 100000
open Go Go.RowKit Go.Proofs

theorem bestTo_succ (h : RHarb) (k : Nat) : bestTo h (k + 1) = match bestTo h k with
    | none => if anyT h k = true then some (listTo k h.reports.length) else none
    | some b => if ordB (listTo k h.reports.length) b = true then some b else if anyT h k = true then some (listTo k h.reports.length) else some b := rfl

theorem wrong_top (h : RHarb) (hs : hnamesFit h) : PCall Try.prog 30 [harbA h] (.tuple [ints (wrongR h).1, .int .i64 (wrongR h).2]) := by
  intro m
  refine ACall.forget ?_
  have hck := check_c h hs
  have hW : wrongR h = if (checkH h).2.2 = 0 then wrongOf (wrongFrom h 0) else ([], (checkH h).2.2) := rfl
  have hok := fun (q : (checkH h).2.2 = 0) => hok_check q
  generalize hX : wrongR h = X at *
  generalize hC : checkH h = C at *
  simp only [harbA, harbL, ints] at hck ⊢
  (refine acall_intro (E := env fun _ => .imm) (envOk _) rfl Try.func30 rfl Try.call30 (by kernel_rfl) (by simp [Try.ntmps30]) ?_; simp only [Try.f30];  simp (maxSteps := 4000000) only [↓VP, VQ, ite_self, Nat.reduceEqDiff, Nat.reduceAdd, Nat.reduceSub, Nat.reduceMul, Nat.reduceLeDiff, Nat.reduceLT, Nat.reduceBEq, Int.reduceLE, Int.reduceLT, Int.reduceNeg, Int.reduceAdd, Int.reduceSub, Int.reduceToNat, ↓reduceIte, reduceCtorEq, ↓ixShip, ↓ixCall, ↓ixLet, ↓ixRep])
  ((refine ACall.pure (hck) ?_; try simp (maxSteps := 4000000) only [↓VP, VQ, ite_self, Nat.reduceEqDiff, Nat.reduceAdd, Nat.reduceSub, Nat.reduceMul, Nat.reduceLeDiff, Nat.reduceLT, Nat.reduceBEq, Int.reduceLE, Int.reduceLT, Int.reduceNeg, Int.reduceAdd, Int.reduceSub, Int.reduceToNat, ↓reduceIte, reduceCtorEq, ↓ixShip, ↓ixCall, ↓ixLet, ↓ixRep]); try simp (maxSteps := 4000000) only [↓VP, VQ, ite_self, Nat.reduceEqDiff, Nat.reduceAdd, Nat.reduceSub, Nat.reduceMul, Nat.reduceLeDiff, Nat.reduceLT, Nat.reduceBEq, Int.reduceLE, Int.reduceLT, Int.reduceNeg, Int.reduceAdd, Int.reduceSub, Int.reduceToNat, ↓reduceIte, reduceCtorEq, ↓ixShip, ↓ixCall, ↓ixLet, ↓ixRep, eq_self, decide_true, decide_false, if_true, if_false, not_true_eq_false, List.append_eq])
  repeat' (first | intro _ | refine And.intro ?_ ?_)
  · have q : ¬ C.2.2 = 0 := by assumption
    rw [if_neg q] at hW
    rw [hW]
    exact ⟨m, fun _ _ h => h, by first | rfl | exact ⟨rfl, rfl⟩⟩
  all_goals try omega
  all_goals have q : C.2.2 = 0 := by omega
  all_goals have hh := hok q
  all_goals have hr5 := hh.nr
  all_goals have hp : (2 : Nat) ^ h.reports.length ≤ 2 ^ 5 := Nat.pow_le_pow_right (by decide) hr5
  all_goals try omega
  all_goals try exact Int.le_trans (by decide) (Int.natCast_nonneg _)
  rw [if_pos q, ← wrong_same hh] at hW
  have hlist := fun s (q : s < 2 ^ 62) => list_c s h.reports.length q (by omega)
  have hlook := fun (b : Nat) m => look_c h (b : Int) m
  have hsome := fun (b : Nat) (q : b < 2 ^ 32) (bm : Nat) (m : Mem) => someT_c h hh b q bm m
  have hcmp := compare_c
  have hlen := fun s => listTo_length s h.reports.length
  simp only [harbA, harbL, ints, lookedL] at hlist hlook hsome hcmp
  refine aloop (envOk _) (fun x : Nat × Mem => ⟨[(1, .v (.eptr [.int .i64 h.ports, .int .i64 h.lost, .slice 5 (h.ships.map shipA), .slice 3 (h.letters.map letA), .slice 4 (h.reports.map repA)])), (2, .v (.slice 1 (((bestTo h x.1).getD []).map (AV.int .i64)))), (4, .v (.bool (bestTo h x.1).isSome)), (19, .v (.int .i64 (2 ^ h.reports.length : Nat))), (20, .v (.int .i64 x.1))], [], [], x.2⟩)
    (fun x => x.1 ≤ 2 ^ h.reports.length ∧ Keeps (fun _ => False) m x.2) (fun x => 2 ^ h.reports.length - x.1) (0, m) (fun _ => rfl) ?_ ?_ ?_
  · exact ⟨by simp, Keeps.refl _ _⟩
  · (simp only [Fits, fitsV, fitsO, fitsL, ↓upd, ↓lookV, ↓lookO, ↓lookL, Nat.reduceEqDiff, ↓reduceIte, ints, and_true, true_and, Option.some.injEq])
    simp [bestTo]
  rintro ⟨k, mk⟩ ⟨hk, hkm⟩
  simp only at hk hkm
  have hsu := bestTo_succ h k
  cases hB : bestTo h k with
  | none =>
    rw [hB] at hsu
    simp only [Option.getD_none, Option.isSome_none, List.map_nil]
    simp (maxSteps := 4000000) only [↓VP, VQ, ite_self, Nat.reduceEqDiff, Nat.reduceAdd, Nat.reduceSub, Nat.reduceMul, Nat.reduceLeDiff, Nat.reduceLT, Nat.reduceBEq, Int.reduceLE, Int.reduceLT, Int.reduceNeg, Int.reduceAdd, Int.reduceSub, Int.reduceToNat, ↓reduceIte, reduceCtorEq, ↓ixShip, ↓ixCall, ↓ixLet, ↓ixRep]
    repeat' (first | intro _ | refine And.intro ?_ ?_)
    all_goals try omega
    · refine ACall.pure (hlist k (by omega)) ?_
      simp (maxSteps := 4000000) only [↓VP, VQ, ite_self, Nat.reduceEqDiff, Nat.reduceAdd, Nat.reduceSub, Nat.reduceMul, Nat.reduceLeDiff, Nat.reduceLT, Nat.reduceBEq, Int.reduceLE, Int.reduceLT, Int.reduceNeg, Int.reduceAdd, Int.reduceSub, Int.reduceToNat, ↓reduceIte, reduceCtorEq, ↓ixShip, ↓ixCall, ↓ixLet, ↓ixRep]
      repeat' (first | intro _ | refine And.intro ?_ ?_)
      refine ACall.told (hlook k mk) ?_
      rintro r m1 ⟨bm, hbm, rfl, rfl⟩
      simp (maxSteps := 4000000) only [↓VP, VQ, ite_self, Nat.reduceEqDiff, Nat.reduceAdd, Nat.reduceSub, Nat.reduceMul, Nat.reduceLeDiff, Nat.reduceLT, Nat.reduceBEq, Int.reduceLE, Int.reduceLT, Int.reduceNeg, Int.reduceAdd, Int.reduceSub, Int.reduceToNat, ↓reduceIte, reduceCtorEq, ↓ixShip, ↓ixCall, ↓ixLet, ↓ixRep]
      repeat' (first | intro _ | refine And.intro ?_ ?_)
      refine ACall.told (hsome k (by omega) bm _ ⟨[], by simp, upd_same _ _ _⟩) ?_
      rintro r m2 ⟨rfl, hk2, hkk⟩
      have hke : Keeps (fun _ => False) m m2 := by
        refine ⟨fun j x _ hx => ?_⟩
        have hx1 := hkm j x (fun h => h) hx
        have hne := ne_of_some hx1 hbm
        exact hkk j x hne (by rw [upd_ne _ _ hne]; exact hx1)
      simp (maxSteps := 4000000) only [↓VP, VQ, ite_self, Nat.reduceEqDiff, Nat.reduceAdd, Nat.reduceSub, Nat.reduceMul, Nat.reduceLeDiff, Nat.reduceLT, Nat.reduceBEq, Int.reduceLE, Int.reduceLT, Int.reduceNeg, Int.reduceAdd, Int.reduceSub, Int.reduceToNat, ↓reduceIte, reduceCtorEq, ↓ixShip, ↓ixCall, ↓ixLet, ↓ixRep]
      repeat' (first | intro _ | refine And.intro ?_ ?_)
      all_goals try omega
      · rw [if_pos (by assumption)] at hsu
        refine ⟨(k + 1, m2), ⟨by dsimp only; omega, hke⟩, by dsimp only; omega, ?_⟩
        (simp only [Fits, fitsV, fitsO, fitsL, ↓upd, ↓lookV, ↓lookO, ↓lookL, Nat.reduceEqDiff, ↓reduceIte, ints, and_true, true_and, Option.some.injEq])
        rw [hsu]
        exact ⟨rfl, rfl, rfl⟩
      · rw [if_neg (by assumption)] at hsu
        refine ⟨(k + 1, m2), ⟨by dsimp only; omega, hke⟩, by dsimp only; omega, ?_⟩
        (simp only [Fits, fitsV, fitsO, fitsL, ↓upd, ↓lookV, ↓lookO, ↓lookL, Nat.reduceEqDiff, ↓reduceIte, ints, and_true, true_and, Option.some.injEq])
        rw [hsu]
        exact ⟨rfl, rfl, rfl⟩
    · rw [show k = 2 ^ h.reports.length by omega] at hB
      rw [hB] at hW
      rw [hW]
      exact ⟨m, fun b x hx => hkm b x (fun h => h) hx, rfl, rfl⟩
  | some b0 =>
    rw [hB] at hsu
    simp only [Option.getD_some, Option.isSome_some]
    have hcm := hcmp (listTo k h.reports.length) b0
    have hordB : ordB (listTo k h.reports.length) b0 = (decide (b0.length < (listTo k h.reports.length).length) || (decide ((listTo k h.reports.length).length = b0.length) && decide (0 < lexC (listTo k h.reports.length) b0))) := rfl
    have hlk := hlist k
    have hlen := hlen k
    simp only at hsu
    generalize hT : listTo k h.reports.length = T at *
    simp (maxSteps := 4000000) only [↓VP, VQ, ite_self, Nat.reduceEqDiff, Nat.reduceAdd, Nat.reduceSub, Nat.reduceMul, Nat.reduceLeDiff, Nat.reduceLT, Nat.reduceBEq, Int.reduceLE, Int.reduceLT, Int.reduceNeg, Int.reduceAdd, Int.reduceSub, Int.reduceToNat, ↓reduceIte, reduceCtorEq, ↓ixShip, ↓ixCall, ↓ixLet, ↓ixRep]
    repeat' (first | intro _ | refine And.intro ?_ ?_)
    all_goals try omega
    · refine ACall.pure (hlk (by omega)) ?_
      simp (maxSteps := 4000000) only [↓VP, VQ, ite_self, Nat.reduceEqDiff, Nat.reduceAdd, Nat.reduceSub, Nat.reduceMul, Nat.reduceLeDiff, Nat.reduceLT, Nat.reduceBEq, Int.reduceLE, Int.reduceLT, Int.reduceNeg, Int.reduceAdd, Int.reduceSub, Int.reduceToNat, ↓reduceIte, reduceCtorEq, ↓ixShip, ↓ixCall, ↓ixLet, ↓ixRep]
      repeat' (first | intro _ | refine And.intro ?_ ?_)
      all_goals try omega
      · have el : T.length = b0.length := by omega
        refine ACall.pure hcm ?_
        simp (maxSteps := 4000000) only [↓VP, VQ, ite_self, Nat.reduceEqDiff, Nat.reduceAdd, Nat.reduceSub, Nat.reduceMul, Nat.reduceLeDiff, Nat.reduceLT, Nat.reduceBEq, Int.reduceLE, Int.reduceLT, Int.reduceNeg, Int.reduceAdd, Int.reduceSub, Int.reduceToNat, ↓reduceIte, reduceCtorEq, ↓ixShip, ↓ixCall, ↓ixLet, ↓ixRep]
        repeat' (first | intro _ | refine And.intro ?_ ?_)
        all_goals try omega
        · have hyes : ordB T b0 = true := by rw [hordB, decide_eq_true el, decide_eq_true (show 0 < lexC T b0 by assumption)]; simp
          rw [hyes, if_pos rfl] at hsu
          refine ⟨(k + 1, mk), ⟨by dsimp only; omega, hkm⟩, by dsimp only; omega, ?_⟩
          (simp only [Fits, fitsV, fitsO, fitsL, ↓upd, ↓lookV, ↓lookO, ↓lookL, Nat.reduceEqDiff, ↓reduceIte, ints, and_true, true_and, Option.some.injEq])
          rw [hsu]
          exact ⟨rfl, rfl, rfl⟩
        · have hno : ordB T b0 = false := by rw [hordB, decide_eq_false (show ¬ b0.length < T.length by omega), decide_eq_false (show ¬ 0 < lexC T b0 by assumption)]; simp
          rw [hno, if_neg (by decide)] at hsu
          refine ACall.told (hlook k mk) ?_
          rintro r m1 ⟨bm, hbm, rfl, rfl⟩
          simp (maxSteps := 4000000) only [↓VP, VQ, ite_self, Nat.reduceEqDiff, Nat.reduceAdd, Nat.reduceSub, Nat.reduceMul, Nat.reduceLeDiff, Nat.reduceLT, Nat.reduceBEq, Int.reduceLE, Int.reduceLT, Int.reduceNeg, Int.reduceAdd, Int.reduceSub, Int.reduceToNat, ↓reduceIte, reduceCtorEq, ↓ixShip, ↓ixCall, ↓ixLet, ↓ixRep]
          repeat' (first | intro _ | refine And.intro ?_ ?_)
          refine ACall.told (hsome k (by omega) bm _ ⟨[], by simp, upd_same _ _ _⟩) ?_
          rintro r m2 ⟨rfl, hk2, hkk⟩
          have hke : Keeps (fun _ => False) m m2 := by
            refine ⟨fun j x _ hx => ?_⟩
            have hx1 := hkm j x (fun h => h) hx
            have hne := ne_of_some hx1 hbm
            exact hkk j x hne (by rw [upd_ne _ _ hne]; exact hx1)
          simp (maxSteps := 4000000) only [↓VP, VQ, ite_self, Nat.reduceEqDiff, Nat.reduceAdd, Nat.reduceSub, Nat.reduceMul, Nat.reduceLeDiff, Nat.reduceLT, Nat.reduceBEq, Int.reduceLE, Int.reduceLT, Int.reduceNeg, Int.reduceAdd, Int.reduceSub, Int.reduceToNat, ↓reduceIte, reduceCtorEq, ↓ixShip, ↓ixCall, ↓ixLet, ↓ixRep]
          repeat' (first | intro _ | refine And.intro ?_ ?_)
          all_goals try omega
          · rw [if_pos (by assumption)] at hsu
            refine ⟨(k + 1, m2), ⟨by dsimp only; omega, hke⟩, by dsimp only; omega, ?_⟩
            (simp only [Fits, fitsV, fitsO, fitsL, ↓upd, ↓lookV, ↓lookO, ↓lookL, Nat.reduceEqDiff, ↓reduceIte, ints, and_true, true_and, Option.some.injEq])
            rw [hsu]
            exact ⟨rfl, rfl, rfl⟩
          · rw [if_neg (by assumption)] at hsu
            refine ⟨(k + 1, m2), ⟨by dsimp only; omega, hke⟩, by dsimp only; omega, ?_⟩
            (simp only [Fits, fitsV, fitsO, fitsL, ↓upd, ↓lookV, ↓lookO, ↓lookL, Nat.reduceEqDiff, ↓reduceIte, ints, and_true, true_and, Option.some.injEq])
            rw [hsu]
            exact ⟨rfl, rfl, rfl⟩
      · have hno : ordB T b0 = false := by rw [hordB, decide_eq_false (show ¬ b0.length < T.length by omega), decide_eq_false (show ¬ T.length = b0.length by omega)]; rfl
        rw [hno, if_neg (by decide)] at hsu
        refine ACall.told (hlook k mk) ?_
        rintro r m1 ⟨bm, hbm, rfl, rfl⟩
        simp (maxSteps := 4000000) only [↓VP, VQ, ite_self, Nat.reduceEqDiff, Nat.reduceAdd, Nat.reduceSub, Nat.reduceMul, Nat.reduceLeDiff, Nat.reduceLT, Nat.reduceBEq, Int.reduceLE, Int.reduceLT, Int.reduceNeg, Int.reduceAdd, Int.reduceSub, Int.reduceToNat, ↓reduceIte, reduceCtorEq, ↓ixShip, ↓ixCall, ↓ixLet, ↓ixRep]
        repeat' (first | intro _ | refine And.intro ?_ ?_)
        refine ACall.told (hsome k (by omega) bm _ ⟨[], by simp, upd_same _ _ _⟩) ?_
        rintro r m2 ⟨rfl, hk2, hkk⟩
        have hke : Keeps (fun _ => False) m m2 := by
          refine ⟨fun j x _ hx => ?_⟩
          have hx1 := hkm j x (fun h => h) hx
          have hne := ne_of_some hx1 hbm
          exact hkk j x hne (by rw [upd_ne _ _ hne]; exact hx1)
        simp (maxSteps := 4000000) only [↓VP, VQ, ite_self, Nat.reduceEqDiff, Nat.reduceAdd, Nat.reduceSub, Nat.reduceMul, Nat.reduceLeDiff, Nat.reduceLT, Nat.reduceBEq, Int.reduceLE, Int.reduceLT, Int.reduceNeg, Int.reduceAdd, Int.reduceSub, Int.reduceToNat, ↓reduceIte, reduceCtorEq, ↓ixShip, ↓ixCall, ↓ixLet, ↓ixRep]
        repeat' (first | intro _ | refine And.intro ?_ ?_)
        all_goals try omega
        · rw [if_pos (by assumption)] at hsu
          refine ⟨(k + 1, m2), ⟨by dsimp only; omega, hke⟩, by dsimp only; omega, ?_⟩
          (simp only [Fits, fitsV, fitsO, fitsL, ↓upd, ↓lookV, ↓lookO, ↓lookL, Nat.reduceEqDiff, ↓reduceIte, ints, and_true, true_and, Option.some.injEq])
          rw [hsu]
          exact ⟨rfl, rfl, rfl⟩
        · rw [if_neg (by assumption)] at hsu
          refine ⟨(k + 1, m2), ⟨by dsimp only; omega, hke⟩, by dsimp only; omega, ?_⟩
          (simp only [Fits, fitsV, fitsO, fitsL, ↓upd, ↓lookV, ↓lookO, ↓lookL, Nat.reduceEqDiff, ↓reduceIte, ints, and_true, true_and, Option.some.injEq])
          rw [hsu]
          exact ⟨rfl, rfl, rfl⟩
      · have hyes : ordB T b0 = true := by rw [hordB, decide_eq_true (show b0.length < T.length by omega)]; rfl
        rw [hyes, if_pos rfl] at hsu
        refine ⟨(k + 1, mk), ⟨by dsimp only; omega, hkm⟩, by dsimp only; omega, ?_⟩
        (simp only [Fits, fitsV, fitsO, fitsL, ↓upd, ↓lookV, ↓lookO, ↓lookL, Nat.reduceEqDiff, ↓reduceIte, ints, and_true, true_and, Option.some.injEq])
        rw [hsu]
        exact ⟨rfl, rfl, rfl⟩
    · rw [show k = 2 ^ h.reports.length by omega] at hB
      rw [hB] at hW
      rw [hW]
      exact ⟨m, fun b x hx => hkm b x (fun h => h) hx, rfl, rfl⟩
end Go.Proofs.Ytnfmmhmfbipkjaa.Abs

/- Contracts: Send. -/
namespace Go.Proofs.Ytnfmmhmfbipkjaa.Abs
set_option linter.unusedSimpArgs false
set_option maxHeartbeats 4000000
set_option maxRecDepth 100000
open Go Go.RowKit Go.Proofs

theorem ships_drop {l : List RShip} {k : Nat} (hk : k < l.length) : ((l.map shipA).map AV.cells).flatten.drop (k * 5) = [.str (l[k]!).name, .int .i64 (l[k]!).sails, .slice 2 ((l[k]!).calls.map callA), .int .i64 (l[k]!).lo, .int .i64 (l[k]!).hi] ++ ((l.map shipA).map AV.cells).flatten.drop (k * 5 + 5) := by
  induction l generalizing k with
  | nil => simp at hk
  | cons x l ih =>
    have hx : (shipA x).cells = [.str x.name, .int .i64 x.sails, .slice 2 (x.calls.map callA), .int .i64 x.lo, .int .i64 x.hi] := rfl
    cases k with
    | zero => simp [hx]
    | succ k =>
      have := ih (k := k) (by simpa using hk)
      rw [List.map_cons, List.map_cons, List.flatten_cons, hx, show (k + 1) * 5 = 5 + k * 5 by omega, show 5 + k * 5 + 5 = 5 + (k * 5 + 5) by omega, ← List.drop_drop, ← List.drop_drop]
      simpa using this
theorem ships_cells (l : List RShip) : ((l.map shipA).map AV.cells).flatten.length = l.length * 5 := by
  induction l with
  | nil => rfl
  | cons x l ih =>
    rw [List.map_cons, List.map_cons, List.flatten_cons, List.length_append, ih]
    simp [shipA, shipL, AV.cells]; omega

theorem sendE_known {h : RHarb} {port day : Int} : (knownR h (dayE day (indexE (checkH h).2.2 port h.ports))).2 = enterE h h.ports (datedE day) [port] := by
  refine known_enter (fun q => ?_) (fun q => ?_)
  · rw [indexE_bad q, dayE_bad q]
  · rw [q, indexE_good]
    simp only [List.any_cons, List.any_nil, Bool.or_false]
    by_cases q1 : offP 0 (h.ports - 1) port = true
    · simp only [if_pos q1]; exact dayE_bad (by decide)
    · simp only [if_neg q1]; unfold dayE datedE; rw [if_pos rfl]
theorem sendR_bad {h : RHarb} {port day : Int} (e : enterE h h.ports (datedE day) [port] ≠ 0) : sendR h port day = (0, 0, enterE h h.ports (datedE day) [port]) := by
  rw [← sendE_known] at e ⊢
  unfold sendR
  rw [if_neg e]
theorem sendR_good {h : RHarb} {port day : Int} (e : enterE h h.ports (datedE day) [port] = 0) : sendR h port day = if (sendTo h (truthsR h []) port day h.ships.length).1 < 0 then (0, 0, 9) else ((sendTo h (truthsR h []) port day h.ships.length).1, (sendTo h (truthsR h []) port day h.ships.length).2, 0) := by
  rw [← sendE_known] at e
  obtain ⟨k1, k2, k3⟩ := known_zero e
  unfold sendR
  rw [if_pos e, k2]

theorem send_top (h : RHarb) (hs : hnamesFit h) (port day : Int) : PCall Try.prog 32 [harbA h, .int .i64 port, .int .i64 day] (.tuple [.int .i64 (sendR h port day).1, .int .i64 (sendR h port day).2.1, .int .i64 (sendR h port day).2.2]) := by
  intro m
  refine ACall.forget ?_
  have hen := fun other m => enter_c h hs h.ports other [port] (fun q => by have := (hok_check q).p; omega) m
  have hbad := sendR_bad (h := h) (port := port) (day := day)
  have hgood := sendR_good (h := h) (port := port) (day := day)
  have hdat := dated_c day
  generalize sendR h port day = R at *
  generalize datedE day = W at *
  simp only [harbA, harbL, ints, List.map_nil, List.map_cons] at hen ⊢
  (refine acall_intro (E := envC (modeAt [12, 13, 14, 32] []) false []) (envCOk _ _ _) rfl Try.func32 rfl Try.call32 (by kernel_rfl) (by simp [Try.ntmps32]) ?_; simp only [Try.f32];  simp (maxSteps := 4000000) only [↓VP, VQ, ite_self, Nat.reduceEqDiff, Nat.reduceAdd, Nat.reduceSub, Nat.reduceMul, Nat.reduceLeDiff, Nat.reduceLT, Nat.reduceBEq, Int.reduceLE, Int.reduceLT, Int.reduceNeg, Int.reduceAdd, Int.reduceSub, Int.reduceToNat, ↓reduceIte, reduceCtorEq, ↓ixShip, ↓ixCall, ↓ixLet, ↓ixRep])
  (refine adraw (by first | exact envOk _ | exact envCOk _ _ _) mixed [⟨true, false, 0⟩, ⟨true, false, 0⟩, ⟨true, false, 0⟩, ⟨true, false, 0⟩, ⟨true, false, 0⟩, ⟨true, false, 0⟩, ⟨true, false, 0⟩, ⟨false, false, 2⟩, ⟨true, false, 0⟩, ⟨true, false, 0⟩, ⟨true, false, 0⟩, ⟨true, false, 0⟩, ⟨true, false, 0⟩] (by kernel_rfl) ?_; show vcOpsD _ _ _ (_ :: _) _ _)
  simp (maxSteps := 4000000) only [↓VP, VQ, ite_self, Nat.reduceEqDiff, Nat.reduceAdd, Nat.reduceSub, Nat.reduceMul, Nat.reduceLeDiff, Nat.reduceLT, Nat.reduceBEq, Int.reduceLE, Int.reduceLT, Int.reduceNeg, Int.reduceAdd, Int.reduceSub, Int.reduceToNat, ↓reduceIte, reduceCtorEq, ↓ixShip, ↓ixCall, ↓ixLet, ↓ixRep]
  repeat' (first | intro _ | refine And.intro ?_ ?_)
  refine VPure.of hdat ?_
  simp (maxSteps := 4000000) only [↓VP, VQ, ite_self, Nat.reduceEqDiff, Nat.reduceAdd, Nat.reduceSub, Nat.reduceMul, Nat.reduceLeDiff, Nat.reduceLT, Nat.reduceBEq, Int.reduceLE, Int.reduceLT, Int.reduceNeg, Int.reduceAdd, Int.reduceSub, Int.reduceToNat, ↓reduceIte, reduceCtorEq, ↓ixShip, ↓ixCall, ↓ixLet, ↓ixRep]
  repeat' (first | intro _ | refine And.intro ?_ ?_)
  refine ACall.told (hen _ _) ?_
  rintro r m1 ⟨kk, ⟨hz, rfl⟩ | ⟨hz, bm, hbm, rfl, hkn⟩⟩
  · have hb := hbad hz
    generalize enterE h h.ports W [port] = e at *
    subst hb
    simp (maxSteps := 4000000) only [↓VP, VQ, ite_self, Nat.reduceEqDiff, Nat.reduceAdd, Nat.reduceSub, Nat.reduceMul, Nat.reduceLeDiff, Nat.reduceLT, Nat.reduceBEq, Int.reduceLE, Int.reduceLT, Int.reduceNeg, Int.reduceAdd, Int.reduceSub, Int.reduceToNat, ↓reduceIte, reduceCtorEq, ↓ixShip, ↓ixCall, ↓ixLet, ↓ixRep, hz]
    exact ⟨m, fun b x hx => kk b x (fun h => h) hx, rfl⟩
  · obtain ⟨z1, z2, z3, z4⟩ := enter_zero hz
    have hh := hok_check z1
    have h3 := hh.n
    have hR := hgood hz
    clear hen hbad hgood
    have hrep : (List.replicate h.ships.length [AV.str ByteArray.empty, AV.int IntKind.i64 0, AV.slice 2 [], AV.int IntKind.i64 0, AV.int IntKind.i64 0]).flatten.length = h.ships.length * 5 := by simp
    have hrd : (List.replicate h.ships.length [AV.str ByteArray.empty, AV.int IntKind.i64 0, AV.slice 2 [], AV.int IntKind.i64 0, AV.int IntKind.i64 0]).flatten.drop (h.ships.length * 5) = [] := List.drop_eq_nil_of_le (by rw [hrep]; exact Nat.le_refl _)
    have hcl := ships_cells h.ships
    have hcf := fun (s : Nat) (q : s < h.ships.length) (m : Mem) (hk : Known h 0 bm m) => callsF_c h hh 0 (by decide) bm s port q m hk
    have htk := fun (s : Nat) => takes_c (h.ships[s]!) port day
    simp only [lookedL, Int.natCast_zero, shipA, shipL] at hcf htk ⊢
    simp (maxSteps := 4000000) only [↓VP, VQ, ite_self, Nat.reduceEqDiff, Nat.reduceAdd, Nat.reduceSub, Nat.reduceMul, Nat.reduceLeDiff, Nat.reduceLT, Nat.reduceBEq, Int.reduceLE, Int.reduceLT, Int.reduceNeg, Int.reduceAdd, Int.reduceSub, Int.reduceToNat, ↓reduceIte, reduceCtorEq, ↓ixShip, ↓ixCall, ↓ixLet, ↓ixRep]
    repeat' (first | intro _ | refine And.intro ?_ ?_)
    all_goals try omega
    refine aloop (envCOk _ _ _) (fun x : Nat × Mem => ⟨[(1, .v (.int .i64 port)), (2, .v (.int .i64 day)), (3, .v (.eptr [.int .i64 h.ports, .int .i64 h.lost, .slice 5 (h.ships.map shipA), .slice 3 (h.letters.map letA), .slice 4 (h.reports.map repA)])), (6, .v (.int .i64 (sendTo h (truthsR h []) port day x.1).1)), (7, .v (.int .i64 (if (sendTo h (truthsR h []) port day x.1).1 < 0 then 61 else (sendTo h (truthsR h []) port day x.1).2))), (9, .v (.eptr (lookedL h 0 bm))), (37, .lslice 32 0 h.ships.length h.ships.length), (38, .v (.int .i64 h.ships.length)), (39, .v (.int .i64 x.1))], [],
        [(32, ((h.ships.map shipA).map AV.cells).flatten)], x.2⟩)
      (fun x => x.1 ≤ h.ships.length ∧ Known h 0 bm x.2 ∧ Keeps (fun _ => False) m x.2) (fun x => h.ships.length - x.1) (0, m1) (fun _ => rfl) ?_ ?_ ?_
    · exact ⟨by simp, hkn, kk⟩
    · (simp only [Fits, fitsV, fitsO, fitsL, ↓upd, ↓lookV, ↓lookO, ↓lookL, Nat.reduceEqDiff, ↓reduceIte, ints, and_true, true_and, Option.some.injEq])
      rw [hcl, hrd]
      simp [lookedL, sendTo]
    rintro ⟨k, mk⟩ ⟨hk, hknk, hkk⟩
    simp only at hk hknk hkk
    have hb := sendTo_le h (truthsR h []) port day k
    have hsu : sendTo h (truthsR h []) port day (k + 1) = if sendOk h (truthsR h []) port day (sendTo h (truthsR h []) port day k) k = true then ((k : Int), (calledTo h (truthsR h []) k port (truthsR h []).length).1.2) else sendTo h (truthsR h []) port day k := rfl
    have hok : sendOk h (truthsR h []) port day (sendTo h (truthsR h []) port day k) k = (takesB (h.ships[k]!) port day && (decide ((calledTo h (truthsR h []) k port (truthsR h []).length).2 = ((truthsR h []).length : Int)) && (decide ((sendTo h (truthsR h []) port day k).1 < 0) || decide ((calledTo h (truthsR h []) k port (truthsR h []).length).1.2 < (sendTo h (truthsR h []) port day k).2)))) := rfl
    have hlast : k = h.ships.length → R = if (sendTo h (truthsR h []) port day k).1 < 0 then (0, 0, 9) else ((sendTo h (truthsR h []) port day k).1, (sendTo h (truthsR h []) port day k).2, 0) := fun e => by rw [e]; exact hR
    generalize sendTo h (truthsR h []) port day k = B at *
    simp only [lookedL]
    by_cases hkl : k < h.ships.length
    · have hdr := ships_drop hkl
      have hck := hcf k hkl mk hknk
      have hslen : (sendOk h (truthsR h []) port day B k) = (sendOk h (truthsR h []) port day B k) := rfl
      have htk := htk k
      generalize takesB (h.ships[k]!) port day = T at *
      simp (maxSteps := 4000000) only [↓VP, VQ, ite_self, Nat.reduceEqDiff, Nat.reduceAdd, Nat.reduceSub, Nat.reduceMul, Nat.reduceLeDiff, Nat.reduceLT, Nat.reduceBEq, Int.reduceLE, Int.reduceLT, Int.reduceNeg, Int.reduceAdd, Int.reduceSub, Int.reduceToNat, ↓reduceIte, reduceCtorEq, ↓ixShip, ↓ixCall, ↓ixLet, ↓ixRep, hdr]
      repeat' (first | intro _ | refine And.intro ?_ ?_)
      all_goals try omega
      refine ACall.told hck ?_
      rintro r m2 ⟨k1, k2, L, g, rfl⟩
      obtain ⟨c1, c2, c3, c4, c5⟩ := calls_same hh (given_same hh g) hkl port
      have hke : Keeps (fun _ => False) m m2 := ⟨fun b x _ hx => k2 b x (ne_of_some hx hbm) (hkk b x (fun h => h) hx)⟩
      have hpos : 0 < (L.length : Int) := by
        have h1 : anyT h 0 = true := z4
        unfold anyT at h1
        rw [List.any_eq_true] at h1
        obtain ⟨x, hx, ho⟩ := h1
        have := g.c x hx ho
        rw [List.nil_append] at this
        have := List.length_pos_of_mem this
        omega
      have hhi : yesC (fun x => decide (dA h k port x < 61)) L ≠ 0 → hiC h k port L = (calledTo h (truthsR h []) k port (truthsR h []).length).1.2 ∧ hiC h k port L < 61 := fun q => by
        have := c4 q
        have e := congrArg Prod.snd this
        simp only at e
        refine ⟨e, ?_⟩
        obtain ⟨m1, m2, m3⟩ := hi_fold (dA h k port) L 0
        change hiC h k port L = 0 ∨ ∃ x ∈ L, dA h k port x < 61 ∧ hiC h k port L = dA h k port x at m3
        rcases m3 with m3 | ⟨z, _, hz1, hz2⟩ <;> omega
      generalize hcalled : calledTo h (truthsR h []) k port (truthsR h []).length = CA at *
      generalize hiC h k port L = hi at *
      generalize yesC (fun x => decide (dA h k port x < 61)) L = yes at *
      generalize loC h k port L = lo at *
      simp (maxSteps := 4000000) only [↓VP, VQ, ite_self, Nat.reduceEqDiff, Nat.reduceAdd, Nat.reduceSub, Nat.reduceMul, Nat.reduceLeDiff, Nat.reduceLT, Nat.reduceBEq, Int.reduceLE, Int.reduceLT, Int.reduceNeg, Int.reduceAdd, Int.reduceSub, Int.reduceToNat, ↓reduceIte, reduceCtorEq, ↓ixShip, ↓ixCall, ↓ixLet, ↓ixRep]
      repeat' (first | intro _ | refine And.intro ?_ ?_)
      all_goals try omega
      refine ACall.pure htk ?_
      simp (maxSteps := 4000000) only [↓VP, VQ, ite_self, Nat.reduceEqDiff, Nat.reduceAdd, Nat.reduceSub, Nat.reduceMul, Nat.reduceLeDiff, Nat.reduceLT, Nat.reduceBEq, Int.reduceLE, Int.reduceLT, Int.reduceNeg, Int.reduceAdd, Int.reduceSub, Int.reduceToNat, ↓reduceIte, reduceCtorEq, ↓ixShip, ↓ixCall, ↓ixLet, ↓ixRep]
      repeat' (first | intro _ | refine And.intro ?_ ?_)
      all_goals try omega
      · have ya : yes = (L.length : Int) := by assumption
        obtain ⟨h1, h2⟩ := hhi (by omega)
        have q : hi < if B.1 < 0 then 61 else B.2 := by assumption
        have hyes : sendOk h (truthsR h []) port day B k = true := by
          rw [hok, show T = true by assumption, decide_eq_true (c3.1 ya), ← h1]
          by_cases q2 : B.1 < 0
          · rw [decide_eq_true q2]; rfl
          · rw [if_neg q2] at q; rw [decide_eq_true q]; simp
        rw [hyes, if_pos rfl] at hsu
        (refine adraw (by first | exact envOk _ | exact envCOk _ _ _) mixed [⟨false, false, 0⟩, ⟨false, false, 0⟩, ⟨false, false, 0⟩, ⟨false, false, 0⟩, ⟨false, false, 0⟩] (by kernel_rfl) ?_; show vcOpsD _ _ _ (_ :: _) _ _)
        simp (maxSteps := 4000000) only [↓VP, VQ, ite_self, Nat.reduceEqDiff, Nat.reduceAdd, Nat.reduceSub, Nat.reduceMul, Nat.reduceLeDiff, Nat.reduceLT, Nat.reduceBEq, Int.reduceLE, Int.reduceLT, Int.reduceNeg, Int.reduceAdd, Int.reduceSub, Int.reduceToNat, ↓reduceIte, reduceCtorEq, ↓ixShip, ↓ixCall, ↓ixLet, ↓ixRep]
        repeat' (first | intro _ | refine And.intro ?_ ?_)
        all_goals try omega
        refine ⟨(k + 1, m2), ⟨by dsimp only; omega, k1, hke⟩, by dsimp only; omega, ?_⟩
        (simp only [Fits, fitsV, fitsO, fitsL, ↓upd, ↓lookV, ↓lookO, ↓lookL, Nat.reduceEqDiff, ↓reduceIte, ints, and_true, true_and, Option.some.injEq])
        rw [hsu, h1]
        simp
        try omega
      · have ya : yes = (L.length : Int) := by assumption
        obtain ⟨h1, h2⟩ := hhi (by omega)
        have q : ¬ hi < if B.1 < 0 then 61 else B.2 := by assumption
        have hno : sendOk h (truthsR h []) port day B k = false := by
          rw [hok, ← h1]
          by_cases q2 : B.1 < 0
          · rw [if_pos q2] at q; exact absurd h2 q
          · rw [if_neg q2] at q; rw [decide_eq_false q2, decide_eq_false q]; simp
        rw [hno, if_neg (by decide)] at hsu
        refine ⟨(k + 1, m2), ⟨by dsimp only; omega, k1, hke⟩, by dsimp only; omega, ?_⟩
        (simp only [Fits, fitsV, fitsO, fitsL, ↓upd, ↓lookV, ↓lookO, ↓lookL, Nat.reduceEqDiff, ↓reduceIte, ints, and_true, true_and, Option.some.injEq])
        rw [hsu]
        simp
      · have hno : sendOk h (truthsR h []) port day B k = false := by
          rw [hok, decide_eq_false (fun e => (show ¬ yes = (L.length : Int) by assumption) (c3.2 e))]; simp
        rw [hno, if_neg (by decide)] at hsu
        refine ⟨(k + 1, m2), ⟨by dsimp only; omega, k1, hke⟩, by dsimp only; omega, ?_⟩
        (simp only [Fits, fitsV, fitsO, fitsL, ↓upd, ↓lookV, ↓lookO, ↓lookL, Nat.reduceEqDiff, ↓reduceIte, ints, and_true, true_and, Option.some.injEq])
        rw [hsu]
        simp
      · have hno : sendOk h (truthsR h []) port day B k = false := by
          rw [hok, show T = false by (first | assumption | (rw [← Bool.not_eq_false]; assumption) | (rw [← Bool.not_eq_true]; assumption) | omega)]; simp
        rw [hno, if_neg (by decide)] at hsu
        refine ⟨(k + 1, m2), ⟨by dsimp only; omega, k1, hke⟩, by dsimp only; omega, ?_⟩
        (simp only [Fits, fitsV, fitsO, fitsL, ↓upd, ↓lookV, ↓lookO, ↓lookL, Nat.reduceEqDiff, ↓reduceIte, ints, and_true, true_and, Option.some.injEq])
        rw [hsu]
        simp
    · simp (maxSteps := 4000000) only [↓VP, VQ, ite_self, Nat.reduceEqDiff, Nat.reduceAdd, Nat.reduceSub, Nat.reduceMul, Nat.reduceLeDiff, Nat.reduceLT, Nat.reduceBEq, Int.reduceLE, Int.reduceLT, Int.reduceNeg, Int.reduceAdd, Int.reduceSub, Int.reduceToNat, ↓reduceIte, reduceCtorEq, ↓ixShip, ↓ixCall, ↓ixLet, ↓ixRep]
      repeat' (first | intro _ | refine And.intro ?_ ?_)
      all_goals try omega
      · have hR := hlast (by omega)
        have q : B.1 = -1 := by assumption
        rw [if_pos (by omega)] at hR
        rw [hR]
        exact ⟨m, fun b x hx => hkk b x (fun h => h) hx, rfl, rfl⟩
      · have hR := hlast (by omega)
        have q : ¬ B.1 = -1 := by assumption
        rw [if_neg (by omega)] at hR
        rw [hR, if_neg (by omega)]
        exact ⟨m, fun b x hx => hkk b x (fun h => h) hx, rfl, rfl⟩
end Go.Proofs.Ytnfmmhmfbipkjaa.Abs

/- Contracts: the harbour of the examples; equality of spans. -/
namespace Go.Proofs.Ytnfmmhmfbipkjaa.Abs
set_option linter.unusedSimpArgs false
set_option maxHeartbeats 4000000
set_option maxRecDepth 100000
open Go Go.RowKit Go.Proofs

theorem eqFlat32 (a b a' b' : Int) : EqFlat Try.prog 32 [.int .i64 a, .int .i64 b] [.int .i64 a', .int .i64 b'] (decide (a = a') && (decide (b = b') && true)) := by
  intro vs vs' com w x y h h'
  obtain ⟨v1, vs, rfl, r1, h⟩ := Reps.cons_inv h
  obtain ⟨v2, vs, rfl, r2, h⟩ := Reps.cons_inv h
  obtain rfl := Reps.nil_inv h
  obtain ⟨u1, us, rfl, s1, h'⟩ := Reps.cons_inv h'
  obtain ⟨u2, us, rfl, s2, h'⟩ := Reps.cons_inv h'
  obtain rfl := Reps.nil_inv h'
  obtain rfl := rep_int r1; obtain rfl := rep_int r2
  obtain rfl := rep_int s1; obtain rfl := rep_int s2
  have hg : Try.prog.eqGuardType Try.prog.depth 32 = false := by kernel_rfl
  have hu : Try.prog.underlying 32 = some (.struct (Try.prog.fieldsOf 32)) := by kernel_rfl
  have hs : Try.prog.stoodInHeld 32 = false := by kernel_rfl
  have key : (Op.equalIn 10000 32 (.agg #[.int .i64 a, .int .i64 b]) (.agg #[.int .i64 a', .int .i64 b'])).run Try.prog w =
      .ok (decide (a = a') && (decide (b = b') && true)) w := by
    rw [run_equalIn_agg w 9999 32 _ _ hu hs]
    simp only [Program.fieldsOf, Try.underlying32]
    exact eqStep (by decide) rfl rfl rfl (eqStep (by decide) rfl rfl rfl (by simp [Op.eqFields]))
  constructor
  · rw [Sem.run_bind, run_eqGuard_agg w .eql 32 x y _ _ hg, Result.andThen_ok, run_eql_struct, key]; rfl
  · rw [Sem.run_bind, run_eqGuard_agg w .neq 32 x y _ _ hg, Result.andThen_ok, run_neq_struct, key]; rfl

/-- The harbour of the examples. -/
def exH (lost : Int) (more : Nat) : RHarb := ⟨2, lost, [⟨⟨#[97, 108, 98, 97]⟩, 1, [⟨0, 3⟩, ⟨1, 6⟩], 0, 2⟩, ⟨⟨#[98, 114, 105, 115, 97]⟩, 3, [⟨1, 3⟩], 0, 1⟩], [⟨1, 0, -1⟩, ⟨1, 2, -1⟩],
  ⟨0, 0, 0, 5⟩ :: (if more = 1 then [⟨0, 1, 1, 9⟩] else if more = 2 then [⟨3, 0, 0, 8⟩, ⟨2, 1, 0, 6⟩] else [])⟩

theorem ex_names (lost : Int) (more : Nat) : hnamesFit (exH lost more) := by
  intro s hs
  simp only [exH, List.mem_cons, List.not_mem_nil, or_false] at hs
  rcases hs with rfl | rfl <;> decide

theorem span_c (a b : Int) : PCall Try.prog 35 [.int .i64 a, .int .i64 b] (.agg [.int .i64 a, .int .i64 b]) := by
  intro m
  (refine acall_intro (E := envC (modeAt [4] []) false []) (envCOk _ _ _) rfl Try.func35 rfl Try.call35 (by kernel_rfl) (by simp [Try.ntmps35]) ?_; simp only [Try.f35];  simp (maxSteps := 4000000) only [↓VP, VQ, ite_self, Nat.reduceEqDiff, Nat.reduceAdd, Nat.reduceSub, Nat.reduceMul, Nat.reduceLeDiff, Nat.reduceLT, Nat.reduceBEq, Int.reduceLE, Int.reduceLT, Int.reduceNeg, Int.reduceAdd, Int.reduceSub, Int.reduceToNat, ↓reduceIte, reduceCtorEq, ↓ixShip, ↓ixCall, ↓ixLet, ↓ixRep])
  unfold vcSome
  simp only [buildFrom, placeOf]
  simp (maxSteps := 4000000) only [↓VP, VQ, ite_self, Nat.reduceEqDiff, Nat.reduceAdd, Nat.reduceSub, Nat.reduceMul, Nat.reduceLeDiff, Nat.reduceLT, Nat.reduceBEq, Int.reduceLE, Int.reduceLT, Int.reduceNeg, Int.reduceAdd, Int.reduceSub, Int.reduceToNat, ↓reduceIte, reduceCtorEq, ↓ixShip, ↓ixCall, ↓ixLet, ↓ixRep]

theorem harbour0_c (lost : Int) : PCall Try.prog 34 [.int .i64 lost, .int .i64 0] (harbA (exH lost 0)) := by
  intro m
  have h1 := span_c 0 2
  have h2 := span_c 0 1
  simp only [harbA, harbL, exH, List.map_cons, List.map_nil, shipA, shipL, callA, letA, repA, if_true, if_false, Nat.reduceEqDiff, reduceCtorEq]
  (refine acall_intro (E := envC (modeAt [4, 5] []) false []) (envCOk _ _ _) rfl Try.func34 rfl Try.call34 (by kernel_rfl) (by simp [Try.ntmps34]) ?_; simp only [Try.f34];  simp (maxSteps := 4000000) only [↓VP, VQ, ite_self, Nat.reduceEqDiff, Nat.reduceAdd, Nat.reduceSub, Nat.reduceMul, Nat.reduceLeDiff, Nat.reduceLT, Nat.reduceBEq, Int.reduceLE, Int.reduceLT, Int.reduceNeg, Int.reduceAdd, Int.reduceSub, Int.reduceToNat, ↓reduceIte, reduceCtorEq, ↓ixShip, ↓ixCall, ↓ixLet, ↓ixRep, buildV, Int.reduceEq])
  (refine ACall.pure (h1) ?_; try simp (maxSteps := 4000000) only [↓VP, VQ, ite_self, Nat.reduceEqDiff, Nat.reduceAdd, Nat.reduceSub, Nat.reduceMul, Nat.reduceLeDiff, Nat.reduceLT, Nat.reduceBEq, Int.reduceLE, Int.reduceLT, Int.reduceNeg, Int.reduceAdd, Int.reduceSub, Int.reduceToNat, ↓reduceIte, reduceCtorEq, ↓ixShip, ↓ixCall, ↓ixLet, ↓ixRep, eq_self, decide_true, decide_false, if_true, if_false, not_true_eq_false, List.append_eq, buildV, Int.reduceEq])
  (refine ACall.pure (h2) ?_; try simp (maxSteps := 4000000) only [↓VP, VQ, ite_self, Nat.reduceEqDiff, Nat.reduceAdd, Nat.reduceSub, Nat.reduceMul, Nat.reduceLeDiff, Nat.reduceLT, Nat.reduceBEq, Int.reduceLE, Int.reduceLT, Int.reduceNeg, Int.reduceAdd, Int.reduceSub, Int.reduceToNat, ↓reduceIte, reduceCtorEq, ↓ixShip, ↓ixCall, ↓ixLet, ↓ixRep, eq_self, decide_true, decide_false, if_true, if_false, not_true_eq_false, List.append_eq, buildV, Int.reduceEq])
  try rfl

theorem harbour1_c (lost : Int) : PCall Try.prog 34 [.int .i64 lost, .int .i64 1] (harbA (exH lost 1)) := by
  intro m
  refine ACall.forget ?_
  have h1 := span_c 0 2
  have h2 := span_c 0 1
  simp only [harbA, harbL, exH, List.map_cons, List.map_nil, shipA, shipL, callA, letA, repA, if_true, if_false, Nat.reduceEqDiff, reduceCtorEq]
  (refine acall_intro (E := envC (modeAt [4, 5] []) false [1, 3]) (envCOk _ _ _) rfl Try.func34 rfl Try.call34 (by kernel_rfl) (by simp [Try.ntmps34]) ?_; simp only [Try.f34];  simp (maxSteps := 4000000) only [↓VP, VQ, ite_self, Nat.reduceEqDiff, Nat.reduceAdd, Nat.reduceSub, Nat.reduceMul, Nat.reduceLeDiff, Nat.reduceLT, Nat.reduceBEq, Int.reduceLE, Int.reduceLT, Int.reduceNeg, Int.reduceAdd, Int.reduceSub, Int.reduceToNat, ↓reduceIte, reduceCtorEq, ↓ixShip, ↓ixCall, ↓ixLet, ↓ixRep, buildV, Int.reduceEq])
  refine acut_at_k 15 (envCOk _ _ _) (V := vcBuildM _) (fun h hd _ _ _ hi hf hs _ _ _ hn => vcBuildM_sound (envCOk _ _ _) h hd hi hf hs hn) rfl rfl (fun b : Nat => ⟨[(0, .v (.int .i64 lost)), (1, .v (.int .i64 1)), (4, .loc 4 0), (5, .loc 5 0)], [], [(4, [.int .i64 0, .int .i64 0, .slice 5 [], .slice 3 [], .slice 4 []]), (5, [.int .i64 2, .int .i64 lost, .slice 5 [.agg [.str ⟨#[97, 108, 98, 97]⟩, .int .i64 1, .slice 2 [.agg [.int .i64 0, .int .i64 3], .agg [.int .i64 1, .int .i64 6]], .int .i64 0, .int .i64 2], .agg [.str ⟨#[98, 114, 105, 115, 97]⟩, .int .i64 3, .slice 2 [.agg [.int .i64 1, .int .i64 3]], .int .i64 0, .int .i64 1]], .slice 3 [.agg [.int .i64 1, .int .i64 0, .int .i64 (-1)], .agg [.int .i64 1, .int .i64 2, .int .i64 (-1)]], .mslice b 0 1 1])], upd m b (some (.cells [.int .i64 0, .int .i64 0, .int .i64 0, .int .i64 5]))⟩) (fun b => m b = none) (fun _ => rfl) ?_ ?_
  · show vcOps _ _ (_ :: _) _ _
    simp (maxSteps := 4000000) only [↓VP, VQ, ite_self, Nat.reduceEqDiff, Nat.reduceAdd, Nat.reduceSub, Nat.reduceMul, Nat.reduceLeDiff, Nat.reduceLT, Nat.reduceBEq, Int.reduceLE, Int.reduceLT, Int.reduceNeg, Int.reduceAdd, Int.reduceSub, Int.reduceToNat, ↓reduceIte, reduceCtorEq, ↓ixShip, ↓ixCall, ↓ixLet, ↓ixRep, buildV, Int.reduceEq]
    (refine ACall.pure (h1) ?_; try simp (maxSteps := 4000000) only [↓VP, VQ, ite_self, Nat.reduceEqDiff, Nat.reduceAdd, Nat.reduceSub, Nat.reduceMul, Nat.reduceLeDiff, Nat.reduceLT, Nat.reduceBEq, Int.reduceLE, Int.reduceLT, Int.reduceNeg, Int.reduceAdd, Int.reduceSub, Int.reduceToNat, ↓reduceIte, reduceCtorEq, ↓ixShip, ↓ixCall, ↓ixLet, ↓ixRep, eq_self, decide_true, decide_false, if_true, if_false, not_true_eq_false, List.append_eq, buildV, Int.reduceEq])
    (refine ACall.pure (h2) ?_; try simp (maxSteps := 4000000) only [↓VP, VQ, ite_self, Nat.reduceEqDiff, Nat.reduceAdd, Nat.reduceSub, Nat.reduceMul, Nat.reduceLeDiff, Nat.reduceLT, Nat.reduceBEq, Int.reduceLE, Int.reduceLT, Int.reduceNeg, Int.reduceAdd, Int.reduceSub, Int.reduceToNat, ↓reduceIte, reduceCtorEq, ↓ixShip, ↓ixCall, ↓ixLet, ↓ixRep, eq_self, decide_true, decide_false, if_true, if_false, not_true_eq_false, List.append_eq, buildV, Int.reduceEq, vcBuildM])
    intro b hb
    refine ⟨b, hb, ?_⟩
    (simp only [Fits, fitsV, fitsO, fitsL, ↓upd, ↓lookV, ↓lookO, ↓lookL, Nat.reduceEqDiff, ↓reduceIte, ints, and_true, true_and, Option.some.injEq])
    try simp
  · intro b hb
    simp (maxSteps := 4000000) only [↓VP, VQ, ite_self, Nat.reduceEqDiff, Nat.reduceAdd, Nat.reduceSub, Nat.reduceMul, Nat.reduceLeDiff, Nat.reduceLT, Nat.reduceBEq, Int.reduceLE, Int.reduceLT, Int.reduceNeg, Int.reduceAdd, Int.reduceSub, Int.reduceToNat, ↓reduceIte, reduceCtorEq, ↓ixShip, ↓ixCall, ↓ixLet, ↓ixRep, buildV, Int.reduceEq]
    refine acut_at_k 4 (envCOk _ _ _) (V := vcAppM _) (fun h hd _ _ _ hi hf hs _ _ _ hn => vcAppM_sound (envCOk _ _ _) h hd hi hf hs hn) rfl rfl (fun _ : Nat => ⟨[(0, .v (.int .i64 lost)), (1, .v (.int .i64 1)), (4, .loc 4 0), (5, .loc 5 0)], [], [(4, [.int .i64 0, .int .i64 0, .slice 5 [], .slice 3 [], .slice 4 []]), (5, [.int .i64 2, .int .i64 lost, .slice 5 [.agg [.str ⟨#[97, 108, 98, 97]⟩, .int .i64 1, .slice 2 [.agg [.int .i64 0, .int .i64 3], .agg [.int .i64 1, .int .i64 6]], .int .i64 0, .int .i64 2], .agg [.str ⟨#[98, 114, 105, 115, 97]⟩, .int .i64 3, .slice 2 [.agg [.int .i64 1, .int .i64 3]], .int .i64 0, .int .i64 1]], .slice 3 [.agg [.int .i64 1, .int .i64 0, .int .i64 (-1)], .agg [.int .i64 1, .int .i64 2, .int .i64 (-1)]], .slice 4 [.agg [.int .i64 0, .int .i64 0, .int .i64 0, .int .i64 5], .agg [.int .i64 0, .int .i64 1, .int .i64 1, .int .i64 9]]])], upd m b (some (.cells [.int .i64 0, .int .i64 0, .int .i64 0, .int .i64 5]))⟩) (fun _ => True) (fun _ => rfl) ?_ ?_
    · show vcOps _ _ (_ :: _) _ _
      simp (maxSteps := 4000000) only [↓VP, VQ, ite_self, Nat.reduceEqDiff, Nat.reduceAdd, Nat.reduceSub, Nat.reduceMul, Nat.reduceLeDiff, Nat.reduceLT, Nat.reduceBEq, Int.reduceLE, Int.reduceLT, Int.reduceNeg, Int.reduceAdd, Int.reduceSub, Int.reduceToNat, ↓reduceIte, reduceCtorEq, ↓ixShip, ↓ixCall, ↓ixLet, ↓ixRep, buildV, Int.reduceEq, vcAppM]
      refine ⟨[.agg [.int .i64 0, .int .i64 0, .int .i64 0, .int .i64 5]], ?_, ?_⟩
      · simp [AV.cells, flat]
      · refine ⟨0, ?_⟩
        (simp only [Fits, fitsV, fitsO, fitsL, ↓upd, ↓lookV, ↓lookO, ↓lookL, Nat.reduceEqDiff, ↓reduceIte, ints, and_true, true_and, Option.some.injEq])
        try simp
    · intro _ _
      simp (maxSteps := 4000000) only [↓VP, VQ, ite_self, Nat.reduceEqDiff, Nat.reduceAdd, Nat.reduceSub, Nat.reduceMul, Nat.reduceLeDiff, Nat.reduceLT, Nat.reduceBEq, Int.reduceLE, Int.reduceLT, Int.reduceNeg, Int.reduceAdd, Int.reduceSub, Int.reduceToNat, ↓reduceIte, reduceCtorEq, ↓ixShip, ↓ixCall, ↓ixLet, ↓ixRep, buildV, Int.reduceEq]
      exact ⟨m, fun k x hx => by rw [if_neg (by rintro rfl; rw [hb] at hx; cases hx)]; exact hx, rfl⟩

theorem harbour2_c (lost : Int) : PCall Try.prog 34 [.int .i64 lost, .int .i64 2] (harbA (exH lost 2)) := by
  intro m
  refine ACall.forget ?_
  have h1 := span_c 0 2
  have h2 := span_c 0 1
  simp only [harbA, harbL, exH, List.map_cons, List.map_nil, shipA, shipL, callA, letA, repA, if_true, if_false, Nat.reduceEqDiff, reduceCtorEq]
  (refine acall_intro (E := envC (modeAt [4, 5] []) false [1, 5]) (envCOk _ _ _) rfl Try.func34 rfl Try.call34 (by kernel_rfl) (by simp [Try.ntmps34]) ?_; simp only [Try.f34];  simp (maxSteps := 4000000) only [↓VP, VQ, ite_self, Nat.reduceEqDiff, Nat.reduceAdd, Nat.reduceSub, Nat.reduceMul, Nat.reduceLeDiff, Nat.reduceLT, Nat.reduceBEq, Int.reduceLE, Int.reduceLT, Int.reduceNeg, Int.reduceAdd, Int.reduceSub, Int.reduceToNat, ↓reduceIte, reduceCtorEq, ↓ixShip, ↓ixCall, ↓ixLet, ↓ixRep, buildV, Int.reduceEq])
  refine acut_at_k 15 (envCOk _ _ _) (V := vcBuildM _) (fun h hd _ _ _ hi hf hs _ _ _ hn => vcBuildM_sound (envCOk _ _ _) h hd hi hf hs hn) rfl rfl (fun b : Nat => ⟨[(0, .v (.int .i64 lost)), (1, .v (.int .i64 2)), (4, .loc 4 0), (5, .loc 5 0)], [], [(4, [.int .i64 0, .int .i64 0, .slice 5 [], .slice 3 [], .slice 4 []]), (5, [.int .i64 2, .int .i64 lost, .slice 5 [.agg [.str ⟨#[97, 108, 98, 97]⟩, .int .i64 1, .slice 2 [.agg [.int .i64 0, .int .i64 3], .agg [.int .i64 1, .int .i64 6]], .int .i64 0, .int .i64 2], .agg [.str ⟨#[98, 114, 105, 115, 97]⟩, .int .i64 3, .slice 2 [.agg [.int .i64 1, .int .i64 3]], .int .i64 0, .int .i64 1]], .slice 3 [.agg [.int .i64 1, .int .i64 0, .int .i64 (-1)], .agg [.int .i64 1, .int .i64 2, .int .i64 (-1)]], .mslice b 0 1 1])], upd m b (some (.cells [.int .i64 0, .int .i64 0, .int .i64 0, .int .i64 5]))⟩) (fun b => m b = none) (fun _ => rfl) ?_ ?_
  · show vcOps _ _ (_ :: _) _ _
    simp (maxSteps := 4000000) only [↓VP, VQ, ite_self, Nat.reduceEqDiff, Nat.reduceAdd, Nat.reduceSub, Nat.reduceMul, Nat.reduceLeDiff, Nat.reduceLT, Nat.reduceBEq, Int.reduceLE, Int.reduceLT, Int.reduceNeg, Int.reduceAdd, Int.reduceSub, Int.reduceToNat, ↓reduceIte, reduceCtorEq, ↓ixShip, ↓ixCall, ↓ixLet, ↓ixRep, buildV, Int.reduceEq]
    (refine ACall.pure (h1) ?_; try simp (maxSteps := 4000000) only [↓VP, VQ, ite_self, Nat.reduceEqDiff, Nat.reduceAdd, Nat.reduceSub, Nat.reduceMul, Nat.reduceLeDiff, Nat.reduceLT, Nat.reduceBEq, Int.reduceLE, Int.reduceLT, Int.reduceNeg, Int.reduceAdd, Int.reduceSub, Int.reduceToNat, ↓reduceIte, reduceCtorEq, ↓ixShip, ↓ixCall, ↓ixLet, ↓ixRep, eq_self, decide_true, decide_false, if_true, if_false, not_true_eq_false, List.append_eq, buildV, Int.reduceEq])
    (refine ACall.pure (h2) ?_; try simp (maxSteps := 4000000) only [↓VP, VQ, ite_self, Nat.reduceEqDiff, Nat.reduceAdd, Nat.reduceSub, Nat.reduceMul, Nat.reduceLeDiff, Nat.reduceLT, Nat.reduceBEq, Int.reduceLE, Int.reduceLT, Int.reduceNeg, Int.reduceAdd, Int.reduceSub, Int.reduceToNat, ↓reduceIte, reduceCtorEq, ↓ixShip, ↓ixCall, ↓ixLet, ↓ixRep, eq_self, decide_true, decide_false, if_true, if_false, not_true_eq_false, List.append_eq, buildV, Int.reduceEq, vcBuildM])
    intro b hb
    refine ⟨b, hb, ?_⟩
    (simp only [Fits, fitsV, fitsO, fitsL, ↓upd, ↓lookV, ↓lookO, ↓lookL, Nat.reduceEqDiff, ↓reduceIte, ints, and_true, true_and, Option.some.injEq])
    try simp
  · intro b hb
    simp (maxSteps := 4000000) only [↓VP, VQ, ite_self, Nat.reduceEqDiff, Nat.reduceAdd, Nat.reduceSub, Nat.reduceMul, Nat.reduceLeDiff, Nat.reduceLT, Nat.reduceBEq, Int.reduceLE, Int.reduceLT, Int.reduceNeg, Int.reduceAdd, Int.reduceSub, Int.reduceToNat, ↓reduceIte, reduceCtorEq, ↓ixShip, ↓ixCall, ↓ixLet, ↓ixRep, buildV, Int.reduceEq]
    refine acut_at_k 5 (envCOk _ _ _) (V := vcAppM _) (fun h hd _ _ _ hi hf hs _ _ _ hn => vcAppM_sound (envCOk _ _ _) h hd hi hf hs hn) rfl rfl (fun _ : Nat => ⟨[(0, .v (.int .i64 lost)), (1, .v (.int .i64 2)), (4, .loc 4 0), (5, .loc 5 0)], [], [(4, [.int .i64 0, .int .i64 0, .slice 5 [], .slice 3 [], .slice 4 []]), (5, [.int .i64 2, .int .i64 lost, .slice 5 [.agg [.str ⟨#[97, 108, 98, 97]⟩, .int .i64 1, .slice 2 [.agg [.int .i64 0, .int .i64 3], .agg [.int .i64 1, .int .i64 6]], .int .i64 0, .int .i64 2], .agg [.str ⟨#[98, 114, 105, 115, 97]⟩, .int .i64 3, .slice 2 [.agg [.int .i64 1, .int .i64 3]], .int .i64 0, .int .i64 1]], .slice 3 [.agg [.int .i64 1, .int .i64 0, .int .i64 (-1)], .agg [.int .i64 1, .int .i64 2, .int .i64 (-1)]], .slice 4 [.agg [.int .i64 0, .int .i64 0, .int .i64 0, .int .i64 5], .agg [.int .i64 3, .int .i64 0, .int .i64 0, .int .i64 8], .agg [.int .i64 2, .int .i64 1, .int .i64 0, .int .i64 6]]])], upd m b (some (.cells [.int .i64 0, .int .i64 0, .int .i64 0, .int .i64 5]))⟩) (fun _ => True) (fun _ => rfl) ?_ ?_
    · show vcOps _ _ (_ :: _) _ _
      simp (maxSteps := 4000000) only [↓VP, VQ, ite_self, Nat.reduceEqDiff, Nat.reduceAdd, Nat.reduceSub, Nat.reduceMul, Nat.reduceLeDiff, Nat.reduceLT, Nat.reduceBEq, Int.reduceLE, Int.reduceLT, Int.reduceNeg, Int.reduceAdd, Int.reduceSub, Int.reduceToNat, ↓reduceIte, reduceCtorEq, ↓ixShip, ↓ixCall, ↓ixLet, ↓ixRep, buildV, Int.reduceEq, vcAppM]
      refine ⟨[.agg [.int .i64 0, .int .i64 0, .int .i64 0, .int .i64 5]], ?_, ?_⟩
      · simp [AV.cells, flat]
      · refine ⟨0, ?_⟩
        (simp only [Fits, fitsV, fitsO, fitsL, ↓upd, ↓lookV, ↓lookO, ↓lookL, Nat.reduceEqDiff, ↓reduceIte, ints, and_true, true_and, Option.some.injEq])
        try simp
    · intro _ _
      simp (maxSteps := 4000000) only [↓VP, VQ, ite_self, Nat.reduceEqDiff, Nat.reduceAdd, Nat.reduceSub, Nat.reduceMul, Nat.reduceLeDiff, Nat.reduceLT, Nat.reduceBEq, Int.reduceLE, Int.reduceLT, Int.reduceNeg, Int.reduceAdd, Int.reduceSub, Int.reduceToNat, ↓reduceIte, reduceCtorEq, ↓ixShip, ↓ixCall, ↓ixLet, ↓ixRep, buildV, Int.reduceEq]
      exact ⟨m, fun k x hx => by rw [if_neg (by rintro rfl; rw [hb] at hx; cases hx)]; exact hx, rfl⟩

theorem x1 : callsR (exH 1 0) 0 1 = ((8, 8), 0, 0) := by kernel_rfl
theorem x2 : callsR (exH 1 0) 0 0 = ((5, 5), 1, 0) := by kernel_rfl
theorem x3 : callsR (exH 1 0) 1 0 = ((0, 0), 2, 0) := by kernel_rfl
theorem x4 : sunkR (exH 1 2) = ([0], [0], 0) := by kernel_rfl
theorem x5 : comeR (exH 0 0) 1 7 = (1, 0) := by kernel_rfl
theorem x6 : comeR (exH 1 0) 0 5 = (2, 0) := by kernel_rfl
theorem x7 : byR (exH 1 2) 0 = ([0], 0) := by kernel_rfl
theorem x8 : beforeR (exH 1 2) 1 0 = (1, 0) := by kernel_rfl
theorem x9 : wrongR (exH 1 1) = ([1], 0) := by kernel_rfl
theorem x10 : byR (exH 1 1) 0 = ([], 8) := by kernel_rfl
theorem x11 : sendR (exH 0 0) 1 0 = (1, 7, 0) := by kernel_rfl
theorem x12 : sendR (exH 1 0) 1 0 = (0, 0, 9) := by kernel_rfl
end Go.Proofs.Ytnfmmhmfbipkjaa.Abs

/- Contracts: Awake of ships. -/
namespace Go.Proofs.Ytnfmmhmfbipkjaa.Abs
set_option linter.unusedSimpArgs false
set_option maxHeartbeats 4000000
set_option maxRecDepth 100000
open Go Go.RowKit Go.Proofs

theorem intsT_c (a : List Int) : PCall Try.prog 22 [ints a, ints a] (.bool true) := by
  have := ints_c a a
  rwa [decide_eq_true rfl] at this

theorem awake_c : PCall Try.prog 23 [] (.bool true) := by
  intro m
  have a0 := harbour0_c 1
  have a1 := harbour1_c 1
  have a2 := harbour2_c 1
  have a3 := harbour0_c 0
  have b1 := calls_top (exH 1 0) (ex_names 1 0) 0 1 (by decide)
  have b2 := calls_top (exH 1 0) (ex_names 1 0) 0 0 (by decide)
  have b3 := calls_top (exH 1 0) (ex_names 1 0) 1 0 (by decide)
  have b4 := sunk_top (exH 1 2) (ex_names 1 2)
  have b5 := come_top (exH 0 0) (ex_names 0 0) 1 7
  have b6 := come_top (exH 1 0) (ex_names 1 0) 0 5
  have b7 := by_top (exH 1 2) (ex_names 1 2) 0
  have b8 := before_top (exH 1 2) (ex_names 1 2) 1 0
  have b9 := wrong_top (exH 1 1) (ex_names 1 1)
  have b10 := by_top (exH 1 1) (ex_names 1 1) 0
  have b11 := send_top (exH 0 0) (ex_names 0 0) 1 0
  have b12 := send_top (exH 1 0) (ex_names 1 0) 1 0
  have i1 := intsT_c [0]
  have i2 := intsT_c [1]
  have s1 := span_c 8 8
  have eq32 := eqFlat32 8 8 8 8
  rw [x1] at b1; rw [x2] at b2; rw [x3] at b3; rw [x4] at b4; rw [x5] at b5; rw [x6] at b6; rw [x7] at b7; rw [x8] at b8; rw [x9] at b9; rw [x10] at b10; rw [x11] at b11; rw [x12] at b12
  simp only [harbA, harbL, exH, List.map_cons, List.map_nil, shipA, shipL, callA, letA, repA, if_true, if_false, Nat.reduceEqDiff, reduceCtorEq, ints] at *
  simp only [decide_true, Bool.and_true] at eq32
  (refine acall_intro (E := envC (modeAt [1, 2, 3, 4, 5, 8, 11] []) false []) (envCOk _ _ _) rfl Try.func23 rfl Try.call23 (by kernel_rfl) (by simp [Try.ntmps23]) ?_; simp only [Try.f23];  simp (maxSteps := 4000000) only [↓VP, VQ, ite_self, Nat.reduceEqDiff, Nat.reduceAdd, Nat.reduceSub, Nat.reduceMul, Nat.reduceLeDiff, Nat.reduceLT, Nat.reduceBEq, Int.reduceLE, Int.reduceLT, Int.reduceNeg, Int.reduceAdd, Int.reduceSub, Int.reduceToNat, ↓reduceIte, reduceCtorEq, ↓ixShip, ↓ixCall, ↓ixLet, ↓ixRep, Int.reduceEq])
  (refine ACall.pure (a0) ?_; try simp (maxSteps := 4000000) only [↓VP, VQ, ite_self, Nat.reduceEqDiff, Nat.reduceAdd, Nat.reduceSub, Nat.reduceMul, Nat.reduceLeDiff, Nat.reduceLT, Nat.reduceBEq, Int.reduceLE, Int.reduceLT, Int.reduceNeg, Int.reduceAdd, Int.reduceSub, Int.reduceToNat, ↓reduceIte, reduceCtorEq, ↓ixShip, ↓ixCall, ↓ixLet, ↓ixRep])
  (refine ACall.pure (a1) ?_; try simp (maxSteps := 4000000) only [↓VP, VQ, ite_self, Nat.reduceEqDiff, Nat.reduceAdd, Nat.reduceSub, Nat.reduceMul, Nat.reduceLeDiff, Nat.reduceLT, Nat.reduceBEq, Int.reduceLE, Int.reduceLT, Int.reduceNeg, Int.reduceAdd, Int.reduceSub, Int.reduceToNat, ↓reduceIte, reduceCtorEq, ↓ixShip, ↓ixCall, ↓ixLet, ↓ixRep])
  (refine ACall.pure (a2) ?_; try simp (maxSteps := 4000000) only [↓VP, VQ, ite_self, Nat.reduceEqDiff, Nat.reduceAdd, Nat.reduceSub, Nat.reduceMul, Nat.reduceLeDiff, Nat.reduceLT, Nat.reduceBEq, Int.reduceLE, Int.reduceLT, Int.reduceNeg, Int.reduceAdd, Int.reduceSub, Int.reduceToNat, ↓reduceIte, reduceCtorEq, ↓ixShip, ↓ixCall, ↓ixLet, ↓ixRep])
  (refine ACall.pure (a3) ?_; try simp (maxSteps := 4000000) only [↓VP, VQ, ite_self, Nat.reduceEqDiff, Nat.reduceAdd, Nat.reduceSub, Nat.reduceMul, Nat.reduceLeDiff, Nat.reduceLT, Nat.reduceBEq, Int.reduceLE, Int.reduceLT, Int.reduceNeg, Int.reduceAdd, Int.reduceSub, Int.reduceToNat, ↓reduceIte, reduceCtorEq, ↓ixShip, ↓ixCall, ↓ixLet, ↓ixRep])
  (refine ACall.pure (b1) ?_; try simp (maxSteps := 4000000) only [↓VP, VQ, ite_self, Nat.reduceEqDiff, Nat.reduceAdd, Nat.reduceSub, Nat.reduceMul, Nat.reduceLeDiff, Nat.reduceLT, Nat.reduceBEq, Int.reduceLE, Int.reduceLT, Int.reduceNeg, Int.reduceAdd, Int.reduceSub, Int.reduceToNat, ↓reduceIte, reduceCtorEq, ↓ixShip, ↓ixCall, ↓ixLet, ↓ixRep])
  (refine ACall.pure (b2) ?_; try simp (maxSteps := 4000000) only [↓VP, VQ, ite_self, Nat.reduceEqDiff, Nat.reduceAdd, Nat.reduceSub, Nat.reduceMul, Nat.reduceLeDiff, Nat.reduceLT, Nat.reduceBEq, Int.reduceLE, Int.reduceLT, Int.reduceNeg, Int.reduceAdd, Int.reduceSub, Int.reduceToNat, ↓reduceIte, reduceCtorEq, ↓ixShip, ↓ixCall, ↓ixLet, ↓ixRep])
  (refine ACall.pure (b3) ?_; try simp (maxSteps := 4000000) only [↓VP, VQ, ite_self, Nat.reduceEqDiff, Nat.reduceAdd, Nat.reduceSub, Nat.reduceMul, Nat.reduceLeDiff, Nat.reduceLT, Nat.reduceBEq, Int.reduceLE, Int.reduceLT, Int.reduceNeg, Int.reduceAdd, Int.reduceSub, Int.reduceToNat, ↓reduceIte, reduceCtorEq, ↓ixShip, ↓ixCall, ↓ixLet, ↓ixRep])
  (refine ACall.pure (b4) ?_; try simp (maxSteps := 4000000) only [↓VP, VQ, ite_self, Nat.reduceEqDiff, Nat.reduceAdd, Nat.reduceSub, Nat.reduceMul, Nat.reduceLeDiff, Nat.reduceLT, Nat.reduceBEq, Int.reduceLE, Int.reduceLT, Int.reduceNeg, Int.reduceAdd, Int.reduceSub, Int.reduceToNat, ↓reduceIte, reduceCtorEq, ↓ixShip, ↓ixCall, ↓ixLet, ↓ixRep])
  (refine ACall.pure (b5) ?_; try simp (maxSteps := 4000000) only [↓VP, VQ, ite_self, Nat.reduceEqDiff, Nat.reduceAdd, Nat.reduceSub, Nat.reduceMul, Nat.reduceLeDiff, Nat.reduceLT, Nat.reduceBEq, Int.reduceLE, Int.reduceLT, Int.reduceNeg, Int.reduceAdd, Int.reduceSub, Int.reduceToNat, ↓reduceIte, reduceCtorEq, ↓ixShip, ↓ixCall, ↓ixLet, ↓ixRep])
  (refine ACall.pure (b6) ?_; try simp (maxSteps := 4000000) only [↓VP, VQ, ite_self, Nat.reduceEqDiff, Nat.reduceAdd, Nat.reduceSub, Nat.reduceMul, Nat.reduceLeDiff, Nat.reduceLT, Nat.reduceBEq, Int.reduceLE, Int.reduceLT, Int.reduceNeg, Int.reduceAdd, Int.reduceSub, Int.reduceToNat, ↓reduceIte, reduceCtorEq, ↓ixShip, ↓ixCall, ↓ixLet, ↓ixRep])
  (refine ACall.pure (b7) ?_; try simp (maxSteps := 4000000) only [↓VP, VQ, ite_self, Nat.reduceEqDiff, Nat.reduceAdd, Nat.reduceSub, Nat.reduceMul, Nat.reduceLeDiff, Nat.reduceLT, Nat.reduceBEq, Int.reduceLE, Int.reduceLT, Int.reduceNeg, Int.reduceAdd, Int.reduceSub, Int.reduceToNat, ↓reduceIte, reduceCtorEq, ↓ixShip, ↓ixCall, ↓ixLet, ↓ixRep])
  (refine ACall.pure (b8) ?_; try simp (maxSteps := 4000000) only [↓VP, VQ, ite_self, Nat.reduceEqDiff, Nat.reduceAdd, Nat.reduceSub, Nat.reduceMul, Nat.reduceLeDiff, Nat.reduceLT, Nat.reduceBEq, Int.reduceLE, Int.reduceLT, Int.reduceNeg, Int.reduceAdd, Int.reduceSub, Int.reduceToNat, ↓reduceIte, reduceCtorEq, ↓ixShip, ↓ixCall, ↓ixLet, ↓ixRep])
  (refine ACall.pure (b9) ?_; try simp (maxSteps := 4000000) only [↓VP, VQ, ite_self, Nat.reduceEqDiff, Nat.reduceAdd, Nat.reduceSub, Nat.reduceMul, Nat.reduceLeDiff, Nat.reduceLT, Nat.reduceBEq, Int.reduceLE, Int.reduceLT, Int.reduceNeg, Int.reduceAdd, Int.reduceSub, Int.reduceToNat, ↓reduceIte, reduceCtorEq, ↓ixShip, ↓ixCall, ↓ixLet, ↓ixRep])
  (refine ACall.pure (b10) ?_; try simp (maxSteps := 4000000) only [↓VP, VQ, ite_self, Nat.reduceEqDiff, Nat.reduceAdd, Nat.reduceSub, Nat.reduceMul, Nat.reduceLeDiff, Nat.reduceLT, Nat.reduceBEq, Int.reduceLE, Int.reduceLT, Int.reduceNeg, Int.reduceAdd, Int.reduceSub, Int.reduceToNat, ↓reduceIte, reduceCtorEq, ↓ixShip, ↓ixCall, ↓ixLet, ↓ixRep])
  (refine ACall.pure (b11) ?_; try simp (maxSteps := 4000000) only [↓VP, VQ, ite_self, Nat.reduceEqDiff, Nat.reduceAdd, Nat.reduceSub, Nat.reduceMul, Nat.reduceLeDiff, Nat.reduceLT, Nat.reduceBEq, Int.reduceLE, Int.reduceLT, Int.reduceNeg, Int.reduceAdd, Int.reduceSub, Int.reduceToNat, ↓reduceIte, reduceCtorEq, ↓ixShip, ↓ixCall, ↓ixLet, ↓ixRep])
  ((refine ACall.pure (b12) ?_; try simp (maxSteps := 4000000) only [↓VP, VQ, ite_self, Nat.reduceEqDiff, Nat.reduceAdd, Nat.reduceSub, Nat.reduceMul, Nat.reduceLeDiff, Nat.reduceLT, Nat.reduceBEq, Int.reduceLE, Int.reduceLT, Int.reduceNeg, Int.reduceAdd, Int.reduceSub, Int.reduceToNat, ↓reduceIte, reduceCtorEq, ↓ixShip, ↓ixCall, ↓ixLet, ↓ixRep]); try simp (maxSteps := 4000000) only [↓VP, VQ, ite_self, Nat.reduceEqDiff, Nat.reduceAdd, Nat.reduceSub, Nat.reduceMul, Nat.reduceLeDiff, Nat.reduceLT, Nat.reduceBEq, Int.reduceLE, Int.reduceLT, Int.reduceNeg, Int.reduceAdd, Int.reduceSub, Int.reduceToNat, ↓reduceIte, reduceCtorEq, ↓ixShip, ↓ixCall, ↓ixLet, ↓ixRep, eq_self, decide_true, decide_false, if_true, if_false, not_true_eq_false, List.append_eq])
  (refine adrawQ (by first | exact envOk _ | exact envCOk _ _ _) mixed (by kernel_rfl) 104 ?_; simp only [List.replicate_succ, List.replicate_zero]; show vcOpsD _ _ _ (_ :: _) _ _)
  simp (maxSteps := 4000000) only [↓VP, VQ, ite_self, Nat.reduceEqDiff, Nat.reduceAdd, Nat.reduceSub, Nat.reduceMul, Nat.reduceLeDiff, Nat.reduceLT, Nat.reduceBEq, Int.reduceLE, Int.reduceLT, Int.reduceNeg, Int.reduceAdd, Int.reduceSub, Int.reduceToNat, ↓reduceIte, reduceCtorEq, ↓ixShip, ↓ixCall, ↓ixLet, ↓ixRep, Int.reduceEq, eq_self, decide_true, decide_false, if_true, if_false, not_true_eq_false, List.append_eq]
  refine VPure.of s1 ?_
  simp (maxSteps := 4000000) only [↓VP, VQ, ite_self, Nat.reduceEqDiff, Nat.reduceAdd, Nat.reduceSub, Nat.reduceMul, Nat.reduceLeDiff, Nat.reduceLT, Nat.reduceBEq, Int.reduceLE, Int.reduceLT, Int.reduceNeg, Int.reduceAdd, Int.reduceSub, Int.reduceToNat, ↓reduceIte, reduceCtorEq, ↓ixShip, ↓ixCall, ↓ixLet, ↓ixRep, Int.reduceEq, eq_self, decide_true, decide_false, if_true, if_false, not_true_eq_false, List.append_eq]
  refine ⟨eq32, ?_⟩
  refine VPure.of i1 ?_
  simp (maxSteps := 4000000) only [↓VP, VQ, ite_self, Nat.reduceEqDiff, Nat.reduceAdd, Nat.reduceSub, Nat.reduceMul, Nat.reduceLeDiff, Nat.reduceLT, Nat.reduceBEq, Int.reduceLE, Int.reduceLT, Int.reduceNeg, Int.reduceAdd, Int.reduceSub, Int.reduceToNat, ↓reduceIte, reduceCtorEq, ↓ixShip, ↓ixCall, ↓ixLet, ↓ixRep, Int.reduceEq, eq_self, decide_true, decide_false, if_true, if_false, not_true_eq_false, List.append_eq]
  refine VPure.of i1 ?_
  simp (maxSteps := 4000000) only [↓VP, VQ, ite_self, Nat.reduceEqDiff, Nat.reduceAdd, Nat.reduceSub, Nat.reduceMul, Nat.reduceLeDiff, Nat.reduceLT, Nat.reduceBEq, Int.reduceLE, Int.reduceLT, Int.reduceNeg, Int.reduceAdd, Int.reduceSub, Int.reduceToNat, ↓reduceIte, reduceCtorEq, ↓ixShip, ↓ixCall, ↓ixLet, ↓ixRep, Int.reduceEq, eq_self, decide_true, decide_false, if_true, if_false, not_true_eq_false, List.append_eq]
  refine VPure.of i1 ?_
  simp (maxSteps := 4000000) only [↓VP, VQ, ite_self, Nat.reduceEqDiff, Nat.reduceAdd, Nat.reduceSub, Nat.reduceMul, Nat.reduceLeDiff, Nat.reduceLT, Nat.reduceBEq, Int.reduceLE, Int.reduceLT, Int.reduceNeg, Int.reduceAdd, Int.reduceSub, Int.reduceToNat, ↓reduceIte, reduceCtorEq, ↓ixShip, ↓ixCall, ↓ixLet, ↓ixRep, Int.reduceEq, eq_self, decide_true, decide_false, if_true, if_false, not_true_eq_false, List.append_eq]
  refine VPure.of i2 ?_
  simp (maxSteps := 4000000) only [↓VP, VQ, ite_self, Nat.reduceEqDiff, Nat.reduceAdd, Nat.reduceSub, Nat.reduceMul, Nat.reduceLeDiff, Nat.reduceLT, Nat.reduceBEq, Int.reduceLE, Int.reduceLT, Int.reduceNeg, Int.reduceAdd, Int.reduceSub, Int.reduceToNat, ↓reduceIte, reduceCtorEq, ↓ixShip, ↓ixCall, ↓ixLet, ↓ixRep, Int.reduceEq, eq_self, decide_true, decide_false, if_true, if_false, not_true_eq_false, List.append_eq]
end Go.Proofs.Ytnfmmhmfbipkjaa.Abs

/- Contracts: Calls, for all numbers of ports. -/
namespace Go.Proofs.Ytnfmmhmfbipkjaa.Abs
set_option linter.unusedSimpArgs false
set_option maxHeartbeats 4000000
set_option maxRecDepth 100000
open Go Go.RowKit Go.Proofs

theorem calls_min (h : RHarb) (hs : hnamesFit h) (ship port : Int) (hm : h.ports = -9223372036854775808) :
    PCall Try.prog 18 [harbA h, .int .i64 ship, .int .i64 port] (.tuple [.agg [.int .i64 (callsR h ship port).1.1, .int .i64 (callsR h ship port).1.2], .int .i64 (callsR h ship port).2.1, .int .i64 (callsR h ship port).2.2]) := by
  intro m
  refine ACall.forget ?_
  have hck : checkH h = (1, 0, 7) := checkH_first (by rw [hm]; rfl)
  have hq : ∀ w nums, enterE h h.ships.length w nums = 7 := fun w nums => by unfold enterE; rw [hck]; rfl
  have hoff := off_c 0 9223372036854775807 [port]
  have hen := fun other m => enter_c h hs h.ships.length other [ship] (fun q => by rw [hck] at q; cases q) m
  have hR : callsR h ship port = ((0, 0), 0, 7) := by
    have e : (callsR h ship port).2.2 = 7 := by rw [callsR_err, hq]
    have := callsR_bad (h := h) (ship := ship) (port := port) (by rw [e]; decide)
    rw [this, e]
  rw [hR]
  simp only [hq] at hen
  have hw : IntKind.wrap .i64 (h.ports - 1) = 9223372036854775807 := by rw [hm]; rfl
  simp only [List.any_cons, List.any_nil, Bool.or_false] at hoff
  simp only [harbA, harbL, ints, List.map_cons, List.map_nil] at hoff hen ⊢
  (refine acall_intro (E := envC (modeAt [] [6, 11]) false [2]) (envCOk _ _ _) rfl Try.func18 rfl Try.call18 (by kernel_rfl) (by simp [Try.ntmps18]) ?_; simp only [Try.f18];  simp (maxSteps := 4000000) only [↓VP, VQ, ite_self, Nat.reduceEqDiff, Nat.reduceAdd, Nat.reduceSub, Nat.reduceMul, Nat.reduceLeDiff, Nat.reduceLT, Nat.reduceBEq, Int.reduceLE, Int.reduceLT, Int.reduceNeg, Int.reduceAdd, Int.reduceSub, Int.reduceToNat, ↓reduceIte, reduceCtorEq, ↓ixShip, ↓ixCall, ↓ixLet, ↓ixRep, ])
  intro b6 hb6
  refine acut_at_k 2 (envCOk _ _ _) (V := vcSubW _) (fun h hd _ _ _ hi hf hs _ _ _ hn => vcSubW_sound h hd hi hf hs hn) rfl rfl (fun _ : Nat => ⟨[(1, .v (.int .i64 ship)), (2, .v (.int .i64 port)), (3, .v (.eptr [.int .i64 h.ports, .int .i64 h.lost, .slice 5 (h.ships.map shipA), .slice 3 (h.letters.map letA), .slice 4 (h.reports.map repA)])), (6, .v (.ptr b6 0)), (9, .v (.int .i64 0)), (17, .v (.bool (offP 0 9223372036854775807 port)))], [], [], upd m b6 (some (.cells [.int .i64 0, .int .i64 0]))⟩) (fun _ => True) (fun _ => rfl) ?_ ?_
  · show vcOps _ _ (_ :: _) _ _
    simp (maxSteps := 4000000) only [↓VP, VQ, ite_self, Nat.reduceEqDiff, Nat.reduceAdd, Nat.reduceSub, Nat.reduceMul, Nat.reduceLeDiff, Nat.reduceLT, Nat.reduceBEq, Int.reduceLE, Int.reduceLT, Int.reduceNeg, Int.reduceAdd, Int.reduceSub, Int.reduceToNat, ↓reduceIte, reduceCtorEq, ↓ixShip, ↓ixCall, ↓ixLet, ↓ixRep, vcSubW, hw]
    refine ACall.pure hoff ?_
    simp (maxSteps := 4000000) only [↓VP, VQ, ite_self, Nat.reduceEqDiff, Nat.reduceAdd, Nat.reduceSub, Nat.reduceMul, Nat.reduceLeDiff, Nat.reduceLT, Nat.reduceBEq, Int.reduceLE, Int.reduceLT, Int.reduceNeg, Int.reduceAdd, Int.reduceSub, Int.reduceToNat, ↓reduceIte, reduceCtorEq, ↓ixShip, ↓ixCall, ↓ixLet, ↓ixRep]
    refine ⟨0, ?_⟩
    (simp only [Fits, fitsV, fitsO, fitsL, ↓upd, ↓lookV, ↓lookO, ↓lookL, Nat.reduceEqDiff, ↓reduceIte, ints, and_true, true_and, Option.some.injEq])
    try simp
  intro _ _
  simp (maxSteps := 4000000) only [↓VP, VQ, ite_self, Nat.reduceEqDiff, Nat.reduceAdd, Nat.reduceSub, Nat.reduceMul, Nat.reduceLeDiff, Nat.reduceLT, Nat.reduceBEq, Int.reduceLE, Int.reduceLT, Int.reduceNeg, Int.reduceAdd, Int.reduceSub, Int.reduceToNat, ↓reduceIte, reduceCtorEq, ↓ixShip, ↓ixCall, ↓ixLet, ↓ixRep]
  repeat' (first | intro _ | refine And.intro ?_ ?_)
  all_goals
    refine ACall.told (hen _ _) ?_
    rintro r m1 ⟨kk, ⟨hz, rfl⟩ | ⟨hz, _⟩⟩
    · have j6 := kk b6 _ (fun h => h) (upd_same _ _ _)
      simp (maxSteps := 4000000) only [↓VP, VQ, ite_self, Nat.reduceEqDiff, Nat.reduceAdd, Nat.reduceSub, Nat.reduceMul, Nat.reduceLeDiff, Nat.reduceLT, Nat.reduceBEq, Int.reduceLE, Int.reduceLT, Int.reduceNeg, Int.reduceAdd, Int.reduceSub, Int.reduceToNat, ↓reduceIte, reduceCtorEq, ↓ixShip, ↓ixCall, ↓ixLet, ↓ixRep, hz, j6, Int.reduceEq]
      exact ⟨m, fun b x hx => by rw [if_neg (ne_of_some hx hb6)]; exact kk b x (fun h => h) (by rw [upd_ne _ _ (ne_of_some hx hb6)]; exact hx), rfl⟩
    · exact absurd hz (by decide)

theorem callsP_c (h : RHarb) (hs : hnamesFit h) (ship port : Int) (hp : -9223372036854775808 ≤ h.ports ∧ h.ports ≤ 9223372036854775807) :
    PCall Try.prog 18 [harbA h, .int .i64 ship, .int .i64 port] (.tuple [.agg [.int .i64 (callsR h ship port).1.1, .int .i64 (callsR h ship port).1.2], .int .i64 (callsR h ship port).2.1, .int .i64 (callsR h ship port).2.2]) := by
  by_cases q : h.ports = -9223372036854775808
  · exact calls_min h hs ship port q
  · exact calls_top h hs ship port (by omega)
end Go.Proofs.Ytnfmmhmfbipkjaa.Abs
