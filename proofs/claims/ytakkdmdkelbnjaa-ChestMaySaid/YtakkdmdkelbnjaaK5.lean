/- Lemmas for the statements of this seat (K5): they hold without conditions beyond those that each one states. -/
import Derived.Test.YtakkdmdkelbnjaaK4
import Derived.Laws.RangeString
/- Contracts: numbers, lists of numbers. -/
namespace Go.Proofs.Ytakkdmdkelbnjaa.Abs
set_option linter.unusedSimpArgs false
set_option maxHeartbeats 4000000
set_option maxRecDepth 100000
open Go Go.RowKit Go.Proofs

theorem mem_take_succ' {α : Type} {l : List α} {k : Nat} (h : k < l.length) (n : α) : n ∈ l.take (k + 1) ↔ n ∈ l.take k ∨ l[k] = n := by
  rw [List.take_succ_eq_append_getElem h, List.mem_append, List.mem_singleton, eq_comm (a := n)]

theorem has_c (l : List Int) (n : Int) : PCall Try.prog 40 [ints l, .int .i64 n] (.bool (decide (n ∈ l))) := by
  intro m
  (refine acall_intro (E := env fun _ => .imm) (envOk _) rfl Try.func40 rfl Try.call40 (by kernel_rfl) (by simp [Try.ntmps40]) ?_; simp only [Try.f40];  simp (maxSteps := 4000000) only [↓VP0, ↓VP1, ↓VP2, VQ0, VQ1, VQ2, VQ3, VQ4, VT, ite_self, ite_split, Nat.reduceEqDiff, Nat.reduceAdd, Nat.reduceSub, Nat.reduceMul, Nat.reduceLeDiff, Nat.reduceLT, Nat.reduceBEq, Int.reduceLE, Int.reduceLT, Int.reduceNeg, Int.reduceAdd, Int.reduceSub, Int.reduceToNat, ↓reduceIte, reduceCtorEq])
  refine aloop (envOk _) (fun k : Nat => ⟨[(0, .v (ints l)), (1, .v (.int .i64 n)), (5, .v (.bool (decide (n ∈ l.take k)))), (6, .v (.int .i64 k))], [], [], m⟩) (fun k => k ≤ l.length) (fun k => l.length - k) 0 (fun _ => rfl) (by simp) (by simp [Fits, fitsV, fitsO, fitsL, upd, ints]) ?_
  intro k hk
  simp (maxSteps := 4000000) only [↓VP0, ↓VP1, ↓VP2, VQ0, VQ1, VQ2, VQ3, VQ4, VT, ite_self, ite_split, Nat.reduceEqDiff, Nat.reduceAdd, Nat.reduceSub, Nat.reduceMul, Nat.reduceLeDiff, Nat.reduceLT, Nat.reduceBEq, Int.reduceLE, Int.reduceLT, Int.reduceNeg, Int.reduceAdd, Int.reduceSub, Int.reduceToNat, ↓reduceIte, reduceCtorEq]
  repeat' (first | intro _ | refine And.intro ?_ ?_)
  all_goals try omega
  · refine ⟨k + 1, by dsimp only; omega, by dsimp only; omega, ?_⟩
    have hlt : k < l.length := by omega
    simp only [Fits, fitsV, fitsO, fitsL, ↓upd, ↓lookV, ↓lookO, ↓lookL, Nat.reduceEqDiff, ↓reduceIte, ints, and_true, true_and, Option.some.injEq]
    simp_all [mem_take_succ' hlt]
  · refine ⟨k + 1, by dsimp only; omega, by dsimp only; omega, ?_⟩
    have hlt : k < l.length := by omega
    simp only [Fits, fitsV, fitsO, fitsL, ↓upd, ↓lookV, ↓lookO, ↓lookL, Nat.reduceEqDiff, ↓reduceIte, ints, and_true, true_and, Option.some.injEq]
    simp_all [mem_take_succ' hlt]
  · have : l.take k = l := List.take_of_length_le (by omega)
    simp [this]

theorem in_c (n lo hi : Int) : PCall Try.prog 55 [.int .i64 n, .int .i64 lo, .int .i64 hi] (.bool (decide (lo ≤ n ∧ n ≤ hi))) := by
  intro m
  (refine acall_intro (E := env fun _ => .imm) (envOk _) rfl Try.func55 rfl Try.call55 (by kernel_rfl) (by simp [Try.ntmps55]) ?_; simp only [Try.f55];  simp (maxSteps := 4000000) only [↓VP0, ↓VP1, ↓VP2, VQ0, VQ1, VQ2, VQ3, VQ4, VT, ite_self, ite_split, Nat.reduceEqDiff, Nat.reduceAdd, Nat.reduceSub, Nat.reduceMul, Nat.reduceLeDiff, Nat.reduceLT, Nat.reduceBEq, Int.reduceLE, Int.reduceLT, Int.reduceNeg, Int.reduceAdd, Int.reduceSub, Int.reduceToNat, ↓reduceIte, reduceCtorEq])
  repeat' (first | intro _ | refine And.intro ?_ ?_)
  all_goals simp_all
  all_goals omega
end Go.Proofs.Ytakkdmdkelbnjaa.Abs

/- Contracts: bits, lists of numbers compared. -/
namespace Go.Proofs.Ytakkdmdkelbnjaa.Abs
set_option linter.unusedSimpArgs false
set_option maxHeartbeats 4000000
set_option maxRecDepth 100000
open Go Go.RowKit Go.Proofs

theorem pow2_pos (k : Nat) : 0 < (2 : Int) ^ k := by
  induction k with
  | zero => decide
  | succ k ih => rw [Int.pow_succ]; omega

def bitI (n : Int) (at_ : Int) : Bool := decide (n / 2 ^ at_.toNat % 2 = 1)

theorem bit_c (n i : Int) (hn : 0 ≤ n) (hn2 : n ≤ 9223372036854775807) (hi : i ≤ 9223372036854775807) : PCall Try.prog 39 [.int .i64 n, .int .i64 i] (.bool (bitI n i)) := by
  intro m
  (refine acall_intro (E := env fun _ => .imm) (envOk _) rfl Try.func39 rfl Try.call39 (by kernel_rfl) (by simp [Try.ntmps39]) ?_; simp only [Try.f39];  simp (maxSteps := 4000000) only [↓VP0, ↓VP1, ↓VP2, VQ0, VQ1, VQ2, VQ3, VQ4, VT, ite_self, ite_split, Nat.reduceEqDiff, Nat.reduceAdd, Nat.reduceSub, Nat.reduceMul, Nat.reduceLeDiff, Nat.reduceLT, Nat.reduceBEq, Int.reduceLE, Int.reduceLT, Int.reduceNeg, Int.reduceAdd, Int.reduceSub, Int.reduceToNat, ↓reduceIte, reduceCtorEq])
  refine aloop (envOk _) (fun k : Nat => ⟨[(0, .v (.int .i64 (n / 2 ^ k))), (1, .v (.int .i64 i)), (5, .v (.int .i64 k))], [], [], m⟩) (fun k => (k : Int) ≤ max i 0) (fun k => i.toNat - k) 0 (fun _ => rfl) (by simp; omega) (by simp [Fits, fitsV, fitsO, fitsL, upd]) ?_
  intro k hk
  have hpos : 0 ≤ n / 2 ^ k := Int.ediv_nonneg hn (Int.le_of_lt (pow2_pos k))
  have hle : n / 2 ^ k ≤ n := Int.ediv_le_self _ hn
  simp (maxSteps := 4000000) only [↓VP0, ↓VP1, ↓VP2, VQ0, VQ1, VQ2, VQ3, VQ4, VT, ite_self, ite_split, Nat.reduceEqDiff, Nat.reduceAdd, Nat.reduceSub, Nat.reduceMul, Nat.reduceLeDiff, Nat.reduceLT, Nat.reduceBEq, Int.reduceLE, Int.reduceLT, Int.reduceNeg, Int.reduceAdd, Int.reduceSub, Int.reduceToNat, ↓reduceIte, reduceCtorEq]
  repeat' (first | intro _ | refine And.intro ?_ ?_)
  all_goals try omega
  · refine ⟨k + 1, by dsimp only; omega, by dsimp only; omega, ?_⟩
    simp only [Fits, fitsV, fitsO, fitsL, ↓upd, ↓lookV, ↓lookO, ↓lookL, Nat.reduceEqDiff, ↓reduceIte, ints, and_true, true_and, Option.some.injEq]
    simp [Int.pow_succ, Int.ediv_ediv_of_nonneg (Int.le_of_lt (pow2_pos k))]
  · have : k = i.toNat := by omega
    simp [bitI, this]

def lessL : List Int → List Int → Bool
  | _, [] => false
  | [], _ :: _ => true
  | x :: xs, y :: ys => if x = y then lessL xs ys else decide (x < y)

theorem less_c (a b : List Int) : PCall Try.prog 60 [ints a, ints b] (.bool (lessL a b)) := by
  intro m
  (refine acall_len Try.call60 fun hlen => ?_; refine acall_intro (E := env fun _ => .imm) (envOk _) rfl Try.func60 rfl Try.call60 (by kernel_rfl) (by simp [Try.ntmps60]) ?_; simp only [Try.f60];  simp (maxSteps := 4000000) only [↓VP0, ↓VP1, ↓VP2, VQ0, VQ1, VQ2, VQ3, VQ4, VT, ite_self, ite_split, Nat.reduceEqDiff, Nat.reduceAdd, Nat.reduceSub, Nat.reduceMul, Nat.reduceLeDiff, Nat.reduceLT, Nat.reduceBEq, Int.reduceLE, Int.reduceLT, Int.reduceNeg, Int.reduceAdd, Int.reduceSub, Int.reduceToNat, ↓reduceIte, reduceCtorEq])
  simp only [ints, lenOk_cons, lenOk_nil, List.length_map, and_true, maxLen_eq] at hlen
  obtain ⟨hla, hlb⟩ := hlen
  refine aloop (envOk _) (fun k : Nat => ⟨[(0, .v (ints a)), (1, .v (ints b)), (5, .v (.int .i64 k))], [], [], m⟩) (fun k => k ≤ a.length ∧ k ≤ b.length ∧ lessL (a.drop k) (b.drop k) = lessL a b) (fun k => a.length - k) 0 (fun _ => rfl) (by simp) (by simp [Fits, fitsV, fitsO, fitsL, upd, ints]) ?_
  intro k hk
  simp (maxSteps := 4000000) only [↓VP0, ↓VP1, ↓VP2, VQ0, VQ1, VQ2, VQ3, VQ4, VT, ite_self, ite_split, Nat.reduceEqDiff, Nat.reduceAdd, Nat.reduceSub, Nat.reduceMul, Nat.reduceLeDiff, Nat.reduceLT, Nat.reduceBEq, Int.reduceLE, Int.reduceLT, Int.reduceNeg, Int.reduceAdd, Int.reduceSub, Int.reduceToNat, ↓reduceIte, reduceCtorEq]
  (refine adraw (by first | exact envOk _ | exact envCOk _ _ _) mixed [⟨false, false, 0⟩, ⟨false, false, 0⟩, ⟨false, false, 0⟩, ⟨false, false, 0⟩, ⟨false, false, 0⟩, ⟨false, false, 0⟩, ⟨false, false, 0⟩, ⟨false, false, 0⟩, ⟨false, false, 0⟩, ⟨false, false, 0⟩, ⟨false, false, 0⟩, ⟨false, false, 0⟩, ⟨false, false, 0⟩, ⟨false, false, 0⟩, ⟨false, false, 0⟩, ⟨false, false, 0⟩, ⟨false, false, 0⟩, ⟨false, false, 0⟩, ⟨false, false, 0⟩, ⟨false, false, 0⟩, ⟨false, false, 0⟩] (by kernel_rfl) ?_; show vcOpsD _ _ _ (_ :: _) _ _)
  simp (maxSteps := 4000000) only [↓VP0, ↓VP1, ↓VP2, VQ0, VQ1, VQ2, VQ3, VQ4, VT, ite_self, ite_split, Nat.reduceEqDiff, Nat.reduceAdd, Nat.reduceSub, Nat.reduceMul, Nat.reduceLeDiff, Nat.reduceLT, Nat.reduceBEq, Int.reduceLE, Int.reduceLT, Int.reduceNeg, Int.reduceAdd, Int.reduceSub, Int.reduceToNat, ↓reduceIte, reduceCtorEq]
  repeat' (first | intro _ | refine And.intro ?_ ?_)
  all_goals try omega
  · refine ⟨k + 1, ⟨by omega, by omega, ?_⟩, by dsimp only; omega, ?_⟩
    · obtain ⟨_, _, h⟩ := hk
      have h1 : k < a.length := by omega
      have h2 : k < b.length := by omega
      rw [← h, List.drop_eq_getElem_cons h1, List.drop_eq_getElem_cons h2]
      have : a[k] = b[k] := by simp_all
      simp [lessL, this]
    · simp only [Fits, fitsV, fitsO, fitsL, ↓upd, ↓lookV, ↓lookO, ↓lookL, Nat.reduceEqDiff, ↓reduceIte, ints, and_true, true_and, Option.some.injEq]
      simp
  · obtain ⟨hk1, hk2, h⟩ := hk
    (refine adraw (by first | exact envOk _ | exact envCOk _ _ _) mixed [⟨false, false, 0⟩, ⟨false, false, 0⟩, ⟨false, false, 0⟩, ⟨false, false, 0⟩, ⟨false, false, 0⟩, ⟨false, false, 0⟩, ⟨false, false, 0⟩, ⟨false, false, 0⟩, ⟨false, false, 0⟩, ⟨false, false, 0⟩, ⟨false, false, 0⟩, ⟨false, false, 0⟩, ⟨false, false, 0⟩, ⟨false, false, 0⟩, ⟨false, false, 0⟩, ⟨false, false, 0⟩] (by kernel_rfl) ?_; show vcOpsD _ _ _ (_ :: _) _ _)
    simp (maxSteps := 4000000) only [↓VP0, ↓VP1, ↓VP2, VQ0, VQ1, VQ2, VQ3, VQ4, VT, ite_self, ite_split, Nat.reduceEqDiff, Nat.reduceAdd, Nat.reduceSub, Nat.reduceMul, Nat.reduceLeDiff, Nat.reduceLT, Nat.reduceBEq, Int.reduceLE, Int.reduceLT, Int.reduceNeg, Int.reduceAdd, Int.reduceSub, Int.reduceToNat, ↓reduceIte, reduceCtorEq]
    repeat' (first | intro _ | refine And.intro ?_ ?_)
    all_goals try omega
    have h1 : k < a.length := by omega
    have h2 : k < b.length := by omega
    rw [← h, List.drop_eq_getElem_cons h1, List.drop_eq_getElem_cons h2]
    have e1 : a[k]! = a[k] := getD_idx h1
    have e2 : b[k]! = b[k] := getD_idx h2
    simp_all [lessL]
  · obtain ⟨hk1, hk2, h⟩ := hk
    rw [← h, List.drop_eq_nil_of_le (show b.length ≤ k by omega)]
    cases a.drop k <;> rfl
  · obtain ⟨hk1, hk2, h⟩ := hk
    rw [← h, List.drop_eq_nil_of_le (show b.length ≤ k by omega)]
    cases a.drop k <;> rfl
  · obtain ⟨hk1, hk2, h⟩ := hk
    (refine adraw (by first | exact envOk _ | exact envCOk _ _ _) mixed [⟨false, false, 0⟩, ⟨false, false, 0⟩, ⟨false, false, 0⟩, ⟨false, false, 0⟩, ⟨false, false, 0⟩, ⟨false, false, 0⟩, ⟨false, false, 0⟩, ⟨false, false, 0⟩, ⟨false, false, 0⟩, ⟨false, false, 0⟩, ⟨false, false, 0⟩, ⟨false, false, 0⟩, ⟨false, false, 0⟩, ⟨false, false, 0⟩, ⟨false, false, 0⟩, ⟨false, false, 0⟩] (by kernel_rfl) ?_; show vcOpsD _ _ _ (_ :: _) _ _)
    simp (maxSteps := 4000000) only [↓VP0, ↓VP1, ↓VP2, VQ0, VQ1, VQ2, VQ3, VQ4, VT, ite_self, ite_split, Nat.reduceEqDiff, Nat.reduceAdd, Nat.reduceSub, Nat.reduceMul, Nat.reduceLeDiff, Nat.reduceLT, Nat.reduceBEq, Int.reduceLE, Int.reduceLT, Int.reduceNeg, Int.reduceAdd, Int.reduceSub, Int.reduceToNat, ↓reduceIte, reduceCtorEq]
    repeat' (first | intro _ | refine And.intro ?_ ?_)
    all_goals try omega
    have h2 : k < b.length := by omega
    rw [← h, List.drop_eq_nil_of_le (show a.length ≤ k by omega), List.drop_eq_getElem_cons h2]
    rfl
end Go.Proofs.Ytakkdmdkelbnjaa.Abs

/- Contracts: lists of numbers compared: Ints, Fewer, Rising. -/
namespace Go.Proofs.Ytakkdmdkelbnjaa.Abs
set_option linter.unusedSimpArgs false
set_option maxHeartbeats 4000000
set_option maxRecDepth 100000
open Go Go.RowKit Go.Proofs

theorem lessL_irrefl : ∀ a : List Int, lessL a a = false
  | [] => rfl
  | x :: xs => by simp [lessL, lessL_irrefl xs]

theorem lessL_total : ∀ a b : List Int, lessL a b = false → lessL b a = false → a = b
  | [], [], _, _ => rfl
  | [], _ :: _, h, _ => by simp [lessL] at h
  | _ :: _, [], _, h => by simp [lessL] at h
  | x :: xs, y :: ys, h, k => by
    simp only [lessL] at h k
    by_cases e : x = y
    · subst e
      simp only [if_pos] at h k
      rw [lessL_total xs ys h k]
    · have e' : ¬ y = x := fun h => e h.symm
      simp only [if_neg e, if_neg e', decide_eq_false_iff_not] at h k
      omega

theorem ints_c (a b : List Int) : PCall Try.prog 21 [ints a, ints b] (.bool (decide (a = b))) := by
  intro m
  (refine acall_intro (E := env fun _ => .imm) (envOk _) rfl Try.func21 rfl Try.call21 (by kernel_rfl) (by simp [Try.ntmps21]) ?_; simp only [Try.f21];  simp (maxSteps := 4000000) only [↓VP0, ↓VP1, ↓VP2, VQ0, VQ1, VQ2, VQ3, VQ4, VT, ite_self, ite_split, Nat.reduceEqDiff, Nat.reduceAdd, Nat.reduceSub, Nat.reduceMul, Nat.reduceLeDiff, Nat.reduceLT, Nat.reduceBEq, Int.reduceLE, Int.reduceLT, Int.reduceNeg, Int.reduceAdd, Int.reduceSub, Int.reduceToNat, ↓reduceIte, reduceCtorEq])
  repeat' (first | intro _ | refine And.intro ?_ ?_)
  all_goals try (refine ACall.pure (less_c _ _) ?_; simp (maxSteps := 4000000) only [↓VP0, ↓VP1, ↓VP2, VQ0, VQ1, VQ2, VQ3, VQ4, VT, ite_self, ite_split, Nat.reduceEqDiff, Nat.reduceAdd, Nat.reduceSub, Nat.reduceMul, Nat.reduceLeDiff, Nat.reduceLT, Nat.reduceBEq, Int.reduceLE, Int.reduceLT, Int.reduceNeg, Int.reduceAdd, Int.reduceSub, Int.reduceToNat, ↓reduceIte, reduceCtorEq]; repeat' (first | intro _ | refine And.intro ?_ ?_))
  all_goals try (refine ACall.pure (less_c _ _) ?_; simp (maxSteps := 4000000) only [↓VP0, ↓VP1, ↓VP2, VQ0, VQ1, VQ2, VQ3, VQ4, VT, ite_self, ite_split, Nat.reduceEqDiff, Nat.reduceAdd, Nat.reduceSub, Nat.reduceMul, Nat.reduceLeDiff, Nat.reduceLT, Nat.reduceBEq, Int.reduceLE, Int.reduceLT, Int.reduceNeg, Int.reduceAdd, Int.reduceSub, Int.reduceToNat, ↓reduceIte, reduceCtorEq]; repeat' (first | intro _ | refine And.intro ?_ ?_))
  · rename_i h
    congr 1
    by_cases e : a = b
    · subst e; simp [lessL_irrefl]
    · cases hb : lessL b a with
      | true => simp [e]
      | false => exact absurd (lessL_total a b h hb) e
  · rename_i h
    have e : ¬ a = b := by rintro rfl; exact h (lessL_irrefl a)
    simp [e]
  · rename_i h
    have e : ¬ a = b := by rintro rfl; exact h rfl
    simp [e]

/-- Fewer numbers; or as many, and before it. -/
def fewerL (a b : List Int) : Bool := if a.length = b.length then lessL a b else decide (a.length < b.length)

theorem fewer_c (a b : List Int) : PCall Try.prog 41 [ints a, ints b] (.bool (fewerL a b)) := by
  intro m
  (refine acall_intro (E := env fun _ => .imm) (envOk _) rfl Try.func41 rfl Try.call41 (by kernel_rfl) (by simp [Try.ntmps41]) ?_; simp only [Try.f41];  simp (maxSteps := 4000000) only [↓VP0, ↓VP1, ↓VP2, VQ0, VQ1, VQ2, VQ3, VQ4, VT, ite_self, ite_split, Nat.reduceEqDiff, Nat.reduceAdd, Nat.reduceSub, Nat.reduceMul, Nat.reduceLeDiff, Nat.reduceLT, Nat.reduceBEq, Int.reduceLE, Int.reduceLT, Int.reduceNeg, Int.reduceAdd, Int.reduceSub, Int.reduceToNat, ↓reduceIte, reduceCtorEq])
  repeat' (first | intro _ | refine And.intro ?_ ?_)
  all_goals try (refine ACall.pure (less_c _ _) ?_; simp (maxSteps := 4000000) only [↓VP0, ↓VP1, ↓VP2, VQ0, VQ1, VQ2, VQ3, VQ4, VT, ite_self, ite_split, Nat.reduceEqDiff, Nat.reduceAdd, Nat.reduceSub, Nat.reduceMul, Nat.reduceLeDiff, Nat.reduceLT, Nat.reduceBEq, Int.reduceLE, Int.reduceLT, Int.reduceNeg, Int.reduceAdd, Int.reduceSub, Int.reduceToNat, ↓reduceIte, reduceCtorEq]; repeat' (first | intro _ | refine And.intro ?_ ?_))
  · rename_i h
    have e : ¬ a.length = b.length := by omega
    simp [fewerL, e]
  · rename_i h
    have e : a.length = b.length := by omega
    simp [fewerL, e]

/-- Ascending from above a number to below another one. -/
def risingL (below : Int) : Int → List Int → Bool
  | _, [] => true
  | last, x :: xs => decide (last < x ∧ x < below) && risingL below x xs

theorem rising_c (l : List Int) (n : Int) : PCall Try.prog 38 [ints l, .int .i64 n] (.bool (risingL n (-1) l)) := by
  intro m
  (refine acall_intro (E := env fun _ => .imm) (envOk _) rfl Try.func38 rfl Try.call38 (by kernel_rfl) (by simp [Try.ntmps38]) ?_; simp only [Try.f38];  simp (maxSteps := 4000000) only [↓VP0, ↓VP1, ↓VP2, VQ0, VQ1, VQ2, VQ3, VQ4, VT, ite_self, ite_split, Nat.reduceEqDiff, Nat.reduceAdd, Nat.reduceSub, Nat.reduceMul, Nat.reduceLeDiff, Nat.reduceLT, Nat.reduceBEq, Int.reduceLE, Int.reduceLT, Int.reduceNeg, Int.reduceAdd, Int.reduceSub, Int.reduceToNat, ↓reduceIte, reduceCtorEq])
  refine aloop (envOk _) (fun k : Nat × Int => ⟨[(0, .v (ints l)), (1, .v (.int .i64 n)), (5, .v (.int .i64 k.2)), (6, .v (.int .i64 k.1))], [], [], m⟩) (fun k => k.1 ≤ l.length ∧ risingL n k.2 (l.drop k.1) = risingL n (-1) l) (fun k => l.length - k.1) (0, -1) (fun _ => rfl) (by simp) (by simp [Fits, fitsV, fitsO, fitsL, upd, ints]) ?_
  rintro ⟨k, last⟩ ⟨hk, hr⟩
  dsimp only at hk hr
  simp (maxSteps := 4000000) only [↓VP0, ↓VP1, ↓VP2, VQ0, VQ1, VQ2, VQ3, VQ4, VT, ite_self, ite_split, Nat.reduceEqDiff, Nat.reduceAdd, Nat.reduceSub, Nat.reduceMul, Nat.reduceLeDiff, Nat.reduceLT, Nat.reduceBEq, Int.reduceLE, Int.reduceLT, Int.reduceNeg, Int.reduceAdd, Int.reduceSub, Int.reduceToNat, ↓reduceIte, reduceCtorEq]
  repeat' (first | intro _ | refine And.intro ?_ ?_)
  all_goals try omega
  all_goals by_cases hlt : k < l.length
  all_goals try (rw [← hr, List.drop_eq_getElem_cons hlt])
  all_goals try (have e1 : l[k]! = l[k] := getD_idx hlt)
  all_goals try omega
  · have : ¬ l[k] < n := by omega
    simp [risingL, this]
  · refine ⟨(k + 1, l[k]), ⟨by dsimp only; omega, ?_⟩, by dsimp only; omega, ?_⟩
    · have h1 : last < l[k] := by omega
      have h2 : l[k] < n := by omega
      dsimp only
      simp [risingL, h1, h2]
    · simp only [Fits, fitsV, fitsO, fitsL, ↓upd, ↓lookV, ↓lookO, ↓lookL, Nat.reduceEqDiff, ↓reduceIte, ints, and_true, true_and, Option.some.injEq]
      simp [e1]
  · have : ¬ last < l[k] := by omega
    simp [risingL, this]
  · rw [← hr, List.drop_eq_nil_of_le (by omega)]
    rfl
end Go.Proofs.Ytakkdmdkelbnjaa.Abs

/- Contracts: off, beyond, IndexFunc. -/
namespace Go.Proofs.Ytakkdmdkelbnjaa.Abs
set_option linter.unusedSimpArgs false
set_option maxHeartbeats 4000000
set_option maxRecDepth 100000
open Go Go.RowKit Go.Proofs

/-- The first index at which something holds; -1: there is none. -/
def idxL {α : Type} (p : α → Bool) : List α → Int
  | [] => -1
  | x :: xs => if p x then 0 else if idxL p xs < 0 then -1 else idxL p xs + 1

theorem idxL_neg {α : Type} {p : α → Bool} : ∀ {l : List α}, (∀ x ∈ l, p x = false) → idxL p l = -1
  | [], _ => rfl
  | x :: xs, h => by
    have h1 := h x (by simp)
    have h2 := idxL_neg (p := p) (l := xs) fun y hy => h y (by simp [hy])
    simp [idxL, h1, h2]

theorem idxL_at {α : Type} {p : α → Bool} : ∀ {l : List α} {k : Nat} (hk : k < l.length), (∀ x ∈ l.take k, p x = false) → p l[k] = true → idxL p l = k
  | [], k, hk, _, _ => by simp at hk
  | x :: xs, 0, _, _, h => by simp at h; simp [idxL, h]
  | x :: xs, k + 1, hk, h, h' => by
    have h1 := h x (by simp)
    have h2 := idxL_at (p := p) (l := xs) (k := k) (by simpa using hk) (fun y hy => h y (by simp [hy])) (by simpa using h')
    simp [idxL, h1, h2]
    omega

theorem idxL_some {α : Type} {p : α → Bool} : ∀ {l : List α}, (0 ≤ idxL p l) ↔ ∃ x ∈ l, p x = true
  | [] => by simp [idxL]
  | x :: xs => by
    have := idxL_some (p := p) (l := xs)
    by_cases hp : p x = true
    · simp [idxL, hp]
    · by_cases h : 0 ≤ idxL p xs
      · have h2 := this.1 h
        have h' : ¬ idxL p xs < 0 := by omega
        simp [idxL, hp, h', h2]
        omega
      · have h2 := mt this.2 h
        have h' : idxL p xs < 0 := by omega
        simp only [idxL, hp, h', if_true, if_false]
        constructor
        · intro h; simp at h
        · rintro ⟨y, hy, hp'⟩
          rcases List.mem_cons.1 hy with rfl | hy
          · exact absurd hp' hp
          · exact absurd ⟨y, hy, hp'⟩ h2

theorem idxL_any {α : Type} (p : α → Bool) (l : List α) : decide (0 ≤ idxL p l) = l.any p := by
  rw [Bool.eq_iff_iff]
  simp [idxL_some]

theorem forall_take_succ {α : Type} {p : α → Prop} {l : List α} {k : Nat} (h : k < l.length) (h1 : ∀ x ∈ l.take k, p x) (h2 : p l[k]) : ∀ x ∈ l.take (k + 1), p x := by
  intro x hx
  rw [List.take_succ_eq_append_getElem h, List.mem_append, List.mem_singleton] at hx
  rcases hx with hx | rfl
  · exact h1 x hx
  · exact h2

theorem indexInt_c (g : FuncId) (caps : List AV) (l : List Int) (p : Int → Bool) (h : ∀ x ∈ l, PCall Try.prog g ([.int .i64 x] ++ caps) (.bool (p x))) :
    PCall Try.prog 92 [ints l, .fn (.func g) [] caps] (.int .i64 (idxL p l)) := by
  intro m
  (refine acall_len Try.call92 fun hlen => ?_; refine acall_intro (E := env fun _ => .imm) (envOk _) rfl Try.func92 rfl Try.call92 (by kernel_rfl) (by simp [Try.ntmps92]) ?_; simp only [Try.f92];  simp (maxSteps := 4000000) only [↓VP0, ↓VP1, ↓VP2, VQ0, VQ1, VQ2, VQ3, VQ4, VT, ite_self, ite_split, Nat.reduceEqDiff, Nat.reduceAdd, Nat.reduceSub, Nat.reduceMul, Nat.reduceLeDiff, Nat.reduceLT, Nat.reduceBEq, Int.reduceLE, Int.reduceLT, Int.reduceNeg, Int.reduceAdd, Int.reduceSub, Int.reduceToNat, ↓reduceIte, reduceCtorEq])
  simp only [ints, lenOk_cons, lenOk_nil, List.length_map, and_true, maxLen_eq] at hlen
  intro _
  refine aloop (envOk _) (fun k : Nat => ⟨[(0, .v (ints l)), (1, .v (.fn (.func g) [] caps)), (7, .v (.int .i64 l.length)), (8, .v (.int .i64 k))], [], [], m⟩) (fun k => k ≤ l.length ∧ ∀ x ∈ l.take k, p x = false) (fun k => l.length - k) 0 (fun _ => rfl) (by simp) (by simp [Fits, fitsV, fitsO, fitsL, upd, ints]) ?_
  intro k ⟨hk, hp⟩
  simp (maxSteps := 4000000) only [↓VP0, ↓VP1, ↓VP2, VQ0, VQ1, VQ2, VQ3, VQ4, VT, ite_self, ite_split, Nat.reduceEqDiff, Nat.reduceAdd, Nat.reduceSub, Nat.reduceMul, Nat.reduceLeDiff, Nat.reduceLT, Nat.reduceBEq, Int.reduceLE, Int.reduceLT, Int.reduceNeg, Int.reduceAdd, Int.reduceSub, Int.reduceToNat, ↓reduceIte, reduceCtorEq]
  repeat' (first | intro _ | refine And.intro ?_ ?_)
  all_goals try omega
  · have hlt : k < l.length := by omega
    have e1 : l[k]! = l[k] := getD_idx hlt
    have hc := h _ (List.getElem_mem hlt)
    rw [← e1] at hc
    refine ACall.pure hc ?_
    simp (maxSteps := 4000000) only [↓VP0, ↓VP1, ↓VP2, VQ0, VQ1, VQ2, VQ3, VQ4, VT, ite_self, ite_split, Nat.reduceEqDiff, Nat.reduceAdd, Nat.reduceSub, Nat.reduceMul, Nat.reduceLeDiff, Nat.reduceLT, Nat.reduceBEq, Int.reduceLE, Int.reduceLT, Int.reduceNeg, Int.reduceAdd, Int.reduceSub, Int.reduceToNat, ↓reduceIte, reduceCtorEq]
    repeat' (first | intro _ | refine And.intro ?_ ?_)
    all_goals try omega
    · rename_i hpx
      rw [idxL_at hlt hp (by rw [← e1]; exact hpx)]
    · have hpx : ¬ p l[k]! = true := by assumption
      refine ⟨k + 1, ⟨by omega, forall_take_succ hlt hp (by rw [← e1]; simpa using hpx)⟩, by dsimp only; omega, ?_⟩
      simp only [Fits, fitsV, fitsO, fitsL, ↓upd, ↓lookV, ↓lookO, ↓lookL, Nat.reduceEqDiff, ↓reduceIte, ints, and_true, true_and, Option.some.injEq]
      simp
  · have : l.take k = l := List.take_of_length_le (by omega)
    rw [this] at hp
    rw [idxL_neg hp]

theorem containsInt_c (g : FuncId) (caps : List AV) (l : List Int) (p : Int → Bool) (h : ∀ x ∈ l, PCall Try.prog g ([.int .i64 x] ++ caps) (.bool (p x))) :
    PCall Try.prog 80 [ints l, .fn (.func g) [] caps] (.bool (l.any p)) := by
  intro m
  (refine acall_intro (E := env fun _ => .imm) (envOk _) rfl Try.func80 rfl Try.call80 (by kernel_rfl) (by simp [Try.ntmps80]) ?_; simp only [Try.f80];  simp (maxSteps := 4000000) only [↓VP0, ↓VP1, ↓VP2, VQ0, VQ1, VQ2, VQ3, VQ4, VT, ite_self, ite_split, Nat.reduceEqDiff, Nat.reduceAdd, Nat.reduceSub, Nat.reduceMul, Nat.reduceLeDiff, Nat.reduceLT, Nat.reduceBEq, Int.reduceLE, Int.reduceLT, Int.reduceNeg, Int.reduceAdd, Int.reduceSub, Int.reduceToNat, ↓reduceIte, reduceCtorEq])
  repeat' (first | intro _ | refine And.intro ?_ ?_)
  refine ACall.pure (indexInt_c g caps l p h) ?_
  simp (maxSteps := 4000000) only [↓VP0, ↓VP1, ↓VP2, VQ0, VQ1, VQ2, VQ3, VQ4, VT, ite_self, ite_split, Nat.reduceEqDiff, Nat.reduceAdd, Nat.reduceSub, Nat.reduceMul, Nat.reduceLeDiff, Nat.reduceLT, Nat.reduceBEq, Int.reduceLE, Int.reduceLT, Int.reduceNeg, Int.reduceAdd, Int.reduceSub, Int.reduceToNat, ↓reduceIte, reduceCtorEq]
  repeat' (first | intro _ | refine And.intro ?_ ?_)
  rw [idxL_any]

/-- Is a number off a range? -/
def offP (lo hi n : Int) : Bool := decide (n < lo ∨ hi < n)

theorem off1_c (n lo hi : Int) : PCall Try.prog 81 [.int .i64 n, .eptr [.int .i64 lo], .eptr [.int .i64 hi]] (.bool (offP lo hi n)) := by
  intro m
  (refine acall_intro (E := env fun _ => .imm) (envOk _) rfl Try.func81 rfl Try.call81 (by kernel_rfl) (by simp [Try.ntmps81]) ?_; simp only [Try.f81];  simp (maxSteps := 4000000) only [↓VP0, ↓VP1, ↓VP2, VQ0, VQ1, VQ2, VQ3, VQ4, VT, ite_self, ite_split, Nat.reduceEqDiff, Nat.reduceAdd, Nat.reduceSub, Nat.reduceMul, Nat.reduceLeDiff, Nat.reduceLT, Nat.reduceBEq, Int.reduceLE, Int.reduceLT, Int.reduceNeg, Int.reduceAdd, Int.reduceSub, Int.reduceToNat, ↓reduceIte, reduceCtorEq])
  repeat' (first | intro _ | refine And.intro ?_ ?_)
  all_goals simp_all [offP]
  all_goals omega

theorem beyond1_c (n lo hi : Int) : PCall Try.prog 93 [.int .i64 n, .eptr [.int .i64 lo], .eptr [.int .i64 hi]] (.bool (offP lo hi n)) := by
  intro m
  (refine acall_intro (E := env fun _ => .imm) (envOk _) rfl Try.func93 rfl Try.call93 (by kernel_rfl) (by simp [Try.ntmps93]) ?_; simp only [Try.f93];  simp (maxSteps := 4000000) only [↓VP0, ↓VP1, ↓VP2, VQ0, VQ1, VQ2, VQ3, VQ4, VT, ite_self, ite_split, Nat.reduceEqDiff, Nat.reduceAdd, Nat.reduceSub, Nat.reduceMul, Nat.reduceLeDiff, Nat.reduceLT, Nat.reduceBEq, Int.reduceLE, Int.reduceLT, Int.reduceNeg, Int.reduceAdd, Int.reduceSub, Int.reduceToNat, ↓reduceIte, reduceCtorEq])
  repeat' (first | intro _ | refine And.intro ?_ ?_)
  all_goals simp_all [offP]
  all_goals omega

theorem off_c (lo hi : Int) (l : List Int) : PCall Try.prog 46 [.int .i64 lo, .int .i64 hi, ints l] (.bool (l.any (offP lo hi))) := by
  intro m
  (refine acall_intro (E := env fun _ => .imm) (envOk _) rfl Try.func46 rfl Try.call46 (by kernel_rfl) (by simp [Try.ntmps46]) ?_; simp only [Try.f46];  simp (maxSteps := 4000000) only [↓VP0, ↓VP1, ↓VP2, VQ0, VQ1, VQ2, VQ3, VQ4, VT, ite_self, ite_split, Nat.reduceEqDiff, Nat.reduceAdd, Nat.reduceSub, Nat.reduceMul, Nat.reduceLeDiff, Nat.reduceLT, Nat.reduceBEq, Int.reduceLE, Int.reduceLT, Int.reduceNeg, Int.reduceAdd, Int.reduceSub, Int.reduceToNat, ↓reduceIte, reduceCtorEq])
  repeat' (first | intro _ | refine And.intro ?_ ?_)
  refine ACall.pure (containsInt_c 81 _ l (offP lo hi) fun x _ => off1_c x lo hi) ?_
  simp (maxSteps := 4000000) only [↓VP0, ↓VP1, ↓VP2, VQ0, VQ1, VQ2, VQ3, VQ4, VT, ite_self, ite_split, Nat.reduceEqDiff, Nat.reduceAdd, Nat.reduceSub, Nat.reduceMul, Nat.reduceLeDiff, Nat.reduceLT, Nat.reduceBEq, Int.reduceLE, Int.reduceLT, Int.reduceNeg, Int.reduceAdd, Int.reduceSub, Int.reduceToNat, ↓reduceIte, reduceCtorEq]
  repeat' (first | intro _ | refine And.intro ?_ ?_)

theorem beyond_c (lo hi : Int) (l : List Int) : PCall Try.prog 82 [.int .i64 lo, .int .i64 hi, ints l] (.bool (l.any (offP lo hi))) := by
  intro m
  (refine acall_intro (E := env fun _ => .imm) (envOk _) rfl Try.func82 rfl Try.call82 (by kernel_rfl) (by simp [Try.ntmps82]) ?_; simp only [Try.f82];  simp (maxSteps := 4000000) only [↓VP0, ↓VP1, ↓VP2, VQ0, VQ1, VQ2, VQ3, VQ4, VT, ite_self, ite_split, Nat.reduceEqDiff, Nat.reduceAdd, Nat.reduceSub, Nat.reduceMul, Nat.reduceLeDiff, Nat.reduceLT, Nat.reduceBEq, Int.reduceLE, Int.reduceLT, Int.reduceNeg, Int.reduceAdd, Int.reduceSub, Int.reduceToNat, ↓reduceIte, reduceCtorEq])
  repeat' (first | intro _ | refine And.intro ?_ ?_)
  refine ACall.pure (containsInt_c 93 _ l (offP lo hi) fun x _ => beyond1_c x lo hi) ?_
  simp (maxSteps := 4000000) only [↓VP0, ↓VP1, ↓VP2, VQ0, VQ1, VQ2, VQ3, VQ4, VT, ite_self, ite_split, Nat.reduceEqDiff, Nat.reduceAdd, Nat.reduceSub, Nat.reduceMul, Nat.reduceLeDiff, Nat.reduceLT, Nat.reduceBEq, Int.reduceLE, Int.reduceLT, Int.reduceNeg, Int.reduceAdd, Int.reduceSub, Int.reduceToNat, ↓reduceIte, reduceCtorEq]
  repeat' (first | intro _ | refine And.intro ?_ ?_)
end Go.Proofs.Ytakkdmdkelbnjaa.Abs

/- Contracts: sets as bits, lists. -/
namespace Go.Proofs.Ytakkdmdkelbnjaa.Abs
set_option linter.unusedSimpArgs false
set_option maxHeartbeats 4000000
set_option maxRecDepth 100000
open Go Go.RowKit Go.Proofs

/-- The numbers of a set, from 0 to below n. -/
def listTo (s n : Nat) : List Int := ((List.range n).filter s.testBit).map fun (i : Nat) => (i : Int)

theorem listTo_succ (s n : Nat) : listTo s (n + 1) = if s.testBit n then listTo s n ++ [(n : Int)] else listTo s n := by
  unfold listTo
  rw [List.range_succ, List.filter_append, List.map_append]
  by_cases h : s.testBit n <;> simp [h]

theorem listTo_length (s n : Nat) : (listTo s n).length ≤ n := by
  unfold listTo
  rw [List.length_map]
  exact Nat.le_trans (List.length_filter_le _ _) (by simp)

theorem listTo_more {s n : Nat} (h : s < 2 ^ n) : ∀ k, n ≤ k → listTo s k = listTo s n
  | 0, hk => by rw [show n = 0 by omega]
  | k + 1, hk => by
    by_cases e : n = k + 1
    · rw [e]
    · rw [listTo_succ, listTo_more h k (by omega)]
      have : s.testBit k = false := Nat.testBit_lt_two_pow (Nat.lt_of_lt_of_le h (Nat.pow_le_pow_right (by decide) (by omega)))
      simp [this]

/-- The numbers of a set. -/
def listS (s : Nat) : List Int := listTo s 62

theorem list_c (s : Nat) (hs : s < 2 ^ 62) : PCall Try.prog 62 [.int .i64 s] (ints (listS s)) := by
  intro m
  (refine acall_intro (E := env fun _ => .imm) (envOk _) rfl Try.func62 rfl Try.call62 (by kernel_rfl) (by simp [Try.ntmps62]) ?_; simp only [Try.f62];  simp (maxSteps := 4000000) only [↓VP0, ↓VP1, ↓VP2, VQ0, VQ1, VQ2, VQ3, VQ4, VT, ite_self, ite_split, Nat.reduceEqDiff, Nat.reduceAdd, Nat.reduceSub, Nat.reduceMul, Nat.reduceLeDiff, Nat.reduceLT, Nat.reduceBEq, Int.reduceLE, Int.reduceLT, Int.reduceNeg, Int.reduceAdd, Int.reduceSub, Int.reduceToNat, ↓reduceIte, reduceCtorEq])
  refine aloop (envOk _) (fun k : Nat => ⟨[(0, .v (.int .i64 s)), (2, .v (ints (listTo s k))), (3, .v (.int .i64 k))], [2], [], m⟩) (fun k => k ≤ 62) (fun k => 62 - k) 0 (fun _ => rfl) (by simp) (by simp [Fits, fitsV, fitsO, fitsL, upd, ints, listTo]) ?_
  intro k hk
  have hlen := listTo_length s k
  have hle : s / 2 ^ k ≤ s := Nat.div_le_self _ _
  simp (maxSteps := 4000000) only [↓VP0, ↓VP1, ↓VP2, VQ0, VQ1, VQ2, VQ3, VQ4, VT, ite_self, ite_split, Nat.reduceEqDiff, Nat.reduceAdd, Nat.reduceSub, Nat.reduceMul, Nat.reduceLeDiff, Nat.reduceLT, Nat.reduceBEq, Int.reduceLE, Int.reduceLT, Int.reduceNeg, Int.reduceAdd, Int.reduceSub, Int.reduceToNat, ↓reduceIte, reduceCtorEq]
  repeat' (first | intro _ | refine And.intro ?_ ?_)
  all_goals try (first | omega | (simp only [List.length_map, List.length_cons, List.length_nil, List.length_append, Nat.zero_add]; omega) | exact Int.natCast_nonneg _ | exact Int.le_trans (by decide) (Int.natCast_nonneg _) | exact Nat.le_of_ble_eq_true rfl)
  · have hb : s.testBit k = true := by assumption
    have hk2 : k < 62 := by
      apply Decidable.byContradiction; intro h
      have : k = 62 := by omega
      subst this
      rw [Nat.testBit_lt_two_pow hs] at hb; cases hb
    (refine ⟨k + 1, by first | omega | (dsimp only; omega), by dsimp only; omega, ?_⟩; (simp only [Fits, fitsV, fitsO, fitsL, ↓upd, ↓lookV, ↓lookO, ↓lookL, Nat.reduceEqDiff, ↓reduceIte, ints, and_true, true_and, Option.some.injEq]); try simp [listTo_succ, hb])
  · have hb : ¬ s.testBit k = true := by assumption
    have hk2 : k < 62 := by
      apply Decidable.byContradiction; intro h
      have : k = 62 := by omega
      subst this
      have : s / 2 ^ 62 = 0 := Nat.div_eq_of_lt hs
      omega
    (refine ⟨k + 1, by first | omega | (dsimp only; omega), by dsimp only; omega, ?_⟩; (simp only [Fits, fitsV, fitsO, fitsL, ↓upd, ↓lookV, ↓lookO, ↓lookL, Nat.reduceEqDiff, ↓reduceIte, ints, and_true, true_and, Option.some.injEq]); try simp [listTo_succ, hb])
  · rename_i h0
    have : s / 2 ^ k = 0 := Nat.eq_zero_of_not_pos fun h' => h0 (Int.ofNat_lt.2 h')
    have h2 : s < 2 ^ k := by
      rcases Nat.div_eq_zero_iff.1 this with h | h
      · have := Nat.pow_pos (n := k) (show 0 < 2 by decide); omega
      · exact h
    rw [listS, listTo_more h2 62 hk]

/-- The numbers below one. -/
def upToL (n : Nat) : List Int := (List.range n).map fun (i : Nat) => (i : Int)

theorem upToL_succ (n : Nat) : upToL (n + 1) = upToL n ++ [(n : Int)] := by
  unfold upToL; rw [List.range_succ, List.map_append]; rfl

theorem upTo_c (n : Nat) (hn : n ≤ 1000) : PCall Try.prog 69 [.int .i64 n] (ints (upToL n)) := by
  intro m
  (refine acall_intro (E := env fun _ => .imm) (envOk _) rfl Try.func69 rfl Try.call69 (by kernel_rfl) (by simp [Try.ntmps69]) ?_; simp only [Try.f69];  simp (maxSteps := 4000000) only [↓VP0, ↓VP1, ↓VP2, VQ0, VQ1, VQ2, VQ3, VQ4, VT, ite_self, ite_split, Nat.reduceEqDiff, Nat.reduceAdd, Nat.reduceSub, Nat.reduceMul, Nat.reduceLeDiff, Nat.reduceLT, Nat.reduceBEq, Int.reduceLE, Int.reduceLT, Int.reduceNeg, Int.reduceAdd, Int.reduceSub, Int.reduceToNat, ↓reduceIte, reduceCtorEq])
  refine aloop (envOk _) (fun k : Nat => ⟨[(0, .v (.int .i64 n)), (2, .v (ints (upToL k))), (4, .v (.int .i64 n)), (5, .v (.int .i64 k))], [2], [], m⟩) (fun k => k ≤ n) (fun k => n - k) 0 (fun _ => rfl) (by simp) (by simp [Fits, fitsV, fitsO, fitsL, upd, ints, upToL]) ?_
  intro k hk
  have hlen : (upToL k).length = k := by simp [upToL]
  simp (maxSteps := 4000000) only [↓VP0, ↓VP1, ↓VP2, VQ0, VQ1, VQ2, VQ3, VQ4, VT, ite_self, ite_split, Nat.reduceEqDiff, Nat.reduceAdd, Nat.reduceSub, Nat.reduceMul, Nat.reduceLeDiff, Nat.reduceLT, Nat.reduceBEq, Int.reduceLE, Int.reduceLT, Int.reduceNeg, Int.reduceAdd, Int.reduceSub, Int.reduceToNat, ↓reduceIte, reduceCtorEq]
  repeat' (first | intro _ | refine And.intro ?_ ?_)
  all_goals try (first | omega | (simp only [List.length_map, List.length_cons, List.length_nil, List.length_append, Nat.zero_add]; omega) | exact Int.natCast_nonneg _ | exact Int.le_trans (by decide) (Int.natCast_nonneg _) | exact Nat.le_of_ble_eq_true rfl)
  · (refine ⟨k + 1, by first | omega | (dsimp only; omega), by dsimp only; omega, ?_⟩; (simp only [Fits, fitsV, fitsO, fitsL, ↓upd, ↓lookV, ↓lookO, ↓lookL, Nat.reduceEqDiff, ↓reduceIte, ints, and_true, true_and, Option.some.injEq]); try simp [upToL_succ])
  · rw [show k = n by omega]

theorem all_c (n : Nat) (hn : n ≤ 60) : PCall Try.prog 86 [.int .i64 n] (.int .i64 ((2 ^ n - 1 : Nat) : Int)) := by
  intro m
  (refine acall_intro (E := env fun _ => .imm) (envOk _) rfl Try.func86 rfl Try.call86 (by kernel_rfl) (by simp [Try.ntmps86]) ?_; simp only [Try.f86];  simp (maxSteps := 4000000) only [↓VP0, ↓VP1, ↓VP2, VQ0, VQ1, VQ2, VQ3, VQ4, VT, ite_self, ite_split, Nat.reduceEqDiff, Nat.reduceAdd, Nat.reduceSub, Nat.reduceMul, Nat.reduceLeDiff, Nat.reduceLT, Nat.reduceBEq, Int.reduceLE, Int.reduceLT, Int.reduceNeg, Int.reduceAdd, Int.reduceSub, Int.reduceToNat, ↓reduceIte, reduceCtorEq])
  refine aloop (envOk _) (fun k : Nat => ⟨[(0, .v (.int .i64 n)), (3, .v (.int .i64 ((2 ^ k - 1 : Nat) : Int))), (4, .v (.int .i64 k))], [], [], m⟩) (fun k => k ≤ n) (fun k => n - k) 0 (fun _ => rfl) (by simp) (by simp [Fits, fitsV, fitsO, fitsL, upd, ints]) ?_
  intro k hk
  have hp : 2 ^ k < 2 ^ 61 := Nat.pow_lt_pow_right (by decide) (by omega)
  have hp0 : 0 < 2 ^ k := Nat.pow_pos (by decide)
  simp (maxSteps := 4000000) only [↓VP0, ↓VP1, ↓VP2, VQ0, VQ1, VQ2, VQ3, VQ4, VT, ite_self, ite_split, Nat.reduceEqDiff, Nat.reduceAdd, Nat.reduceSub, Nat.reduceMul, Nat.reduceLeDiff, Nat.reduceLT, Nat.reduceBEq, Int.reduceLE, Int.reduceLT, Int.reduceNeg, Int.reduceAdd, Int.reduceSub, Int.reduceToNat, ↓reduceIte, reduceCtorEq]
  repeat' (first | intro _ | refine And.intro ?_ ?_)
  all_goals try (first | omega | (simp only [List.length_map, List.length_cons, List.length_nil, List.length_append, Nat.zero_add]; omega) | exact Int.natCast_nonneg _ | exact Int.le_trans (by decide) (Int.natCast_nonneg _) | exact Nat.le_of_ble_eq_true rfl)
  · have e1 : 2 * ((2 ^ k - 1 : Nat) : Int) + 1 = ((2 ^ (k + 1) - 1 : Nat) : Int) := by rw [Nat.pow_succ]; omega
    (refine ⟨k + 1, by first | omega | (dsimp only; omega), by dsimp only; omega, ?_⟩; (simp only [Fits, fitsV, fitsO, fitsL, ↓upd, ↓lookV, ↓lookO, ↓lookL, Nat.reduceEqDiff, ↓reduceIte, ints, and_true, true_and, Option.some.injEq]); try simp [e1])
  · rw [show k = n by omega]

/-- The indices that are marked. -/
def markedTo (l : List Bool) (n : Nat) : List Int := ((List.range n).filter fun i => l[i]?.getD false).map fun (i : Nat) => (i : Int)
def markedL (l : List Bool) : List Int := markedTo l l.length

theorem markedTo_succ (l : List Bool) (n : Nat) : markedTo l (n + 1) = if l[n]?.getD false then markedTo l n ++ [(n : Int)] else markedTo l n := by
  unfold markedTo
  rw [List.range_succ, List.filter_append, List.map_append]
  by_cases h : l[n]?.getD false <;> simp [h]

theorem markedTo_length (l : List Bool) (n : Nat) : (markedTo l n).length ≤ n := by
  unfold markedTo
  rw [List.length_map]
  exact Nat.le_trans (List.length_filter_le _ _) (by simp)

def boolsA (l : List Bool) : AV := .slice 1 (l.map AV.bool)

theorem marked_c (l : List Bool) (hl : l.length ≤ 1000) : PCall Try.prog 91 [boolsA l] (ints (markedL l)) := by
  intro m
  simp only [boolsA]
  (refine acall_intro (E := env fun _ => .imm) (envOk _) rfl Try.func91 rfl Try.call91 (by kernel_rfl) (by simp [Try.ntmps91]) ?_; simp only [Try.f91];  simp (maxSteps := 4000000) only [↓VP0, ↓VP1, ↓VP2, VQ0, VQ1, VQ2, VQ3, VQ4, VT, ite_self, ite_split, Nat.reduceEqDiff, Nat.reduceAdd, Nat.reduceSub, Nat.reduceMul, Nat.reduceLeDiff, Nat.reduceLT, Nat.reduceBEq, Int.reduceLE, Int.reduceLT, Int.reduceNeg, Int.reduceAdd, Int.reduceSub, Int.reduceToNat, ↓reduceIte, reduceCtorEq])
  refine aloop (envOk _) (fun k : Nat => ⟨[(0, .v (.slice 1 (l.map AV.bool))), (3, .v (ints (markedTo l k))), (4, .v (.int .i64 k))], [3], [], m⟩) (fun k => k ≤ l.length) (fun k => l.length - k) 0 (fun _ => rfl) (by simp) (by simp [Fits, fitsV, fitsO, fitsL, upd, ints, markedTo]) ?_
  intro k hk
  have hlen := markedTo_length l k
  simp (maxSteps := 4000000) only [↓VP0, ↓VP1, ↓VP2, VQ0, VQ1, VQ2, VQ3, VQ4, VT, ite_self, ite_split, Nat.reduceEqDiff, Nat.reduceAdd, Nat.reduceSub, Nat.reduceMul, Nat.reduceLeDiff, Nat.reduceLT, Nat.reduceBEq, Int.reduceLE, Int.reduceLT, Int.reduceNeg, Int.reduceAdd, Int.reduceSub, Int.reduceToNat, ↓reduceIte, reduceCtorEq]
  repeat' (first | intro _ | refine And.intro ?_ ?_)
  all_goals try (first | omega | (simp only [List.length_map, List.length_cons, List.length_nil, List.length_append, Nat.zero_add]; omega) | exact Int.natCast_nonneg _ | exact Int.le_trans (by decide) (Int.natCast_nonneg _) | exact Nat.le_of_ble_eq_true rfl)
  · have hlt : k < l.length := by omega
    have hb : l[k]! = true := by assumption
    have e1 : l[k]?.getD false = true := by simpa [hlt] using hb
    (refine ⟨k + 1, by first | omega | (dsimp only; omega), by dsimp only; omega, ?_⟩; (simp only [Fits, fitsV, fitsO, fitsL, ↓upd, ↓lookV, ↓lookO, ↓lookL, Nat.reduceEqDiff, ↓reduceIte, ints, and_true, true_and, Option.some.injEq]); try simp [markedTo_succ, e1])
  · have hlt : k < l.length := by omega
    have hb : ¬ l[k]! = true := by assumption
    have e1 : l[k]?.getD false = false := by simpa [hlt] using hb
    (refine ⟨k + 1, by first | omega | (dsimp only; omega), by dsimp only; omega, ?_⟩; (simp only [Fits, fitsV, fitsO, fitsL, ↓upd, ↓lookV, ↓lookO, ↓lookL, Nat.reduceEqDiff, ↓reduceIte, ints, and_true, true_and, Option.some.injEq]); try simp [markedTo_succ, e1])
  · rw [markedL, show k = l.length by omega]
end Go.Proofs.Ytakkdmdkelbnjaa.Abs

/- Contracts: lists of numbers as sets. -/
namespace Go.Proofs.Ytakkdmdkelbnjaa.Abs
set_option linter.unusedSimpArgs false
set_option maxHeartbeats 4000000
set_option maxRecDepth 100000
open Go Go.RowKit Go.Proofs

/-- The set that has some numbers. -/
def bitsS : List Int → Nat
  | [] => 0
  | n :: l => 2 ^ n.toNat ||| bitsS l

theorem bitsS_append (a b : List Int) : bitsS (a ++ b) = bitsS a ||| bitsS b := by
  induction a with
  | nil => simp [bitsS]
  | cons x a ih => simp [bitsS, ih, Nat.or_assoc]

theorem bitsS_take {l : List Int} {k : Nat} (h : k < l.length) : bitsS (l.take (k + 1)) = bitsS (l.take k) ||| 2 ^ l[k].toNat := by
  rw [List.take_succ_eq_append_getElem h, bitsS_append]; simp [bitsS]

theorem bitsS_lt {b : Nat} : ∀ {l : List Int}, (∀ x ∈ l, x < (b : Int)) → bitsS l < 2 ^ b ∨ (b = 0 ∧ l ≠ [])
  | [], _ => .inl (Nat.pow_pos (by decide))
  | n :: l, h => by
    by_cases hb : b = 0
    · exact .inr ⟨hb, by simp⟩
    · left
      have h1 := h n (by simp)
      have h2 := (bitsS_lt (b := b) (l := l) fun x hx => h x (by simp [hx])).resolve_right (fun e => hb e.1)
      refine Nat.or_lt_two_pow (Nat.pow_lt_pow_right (by decide) (by omega)) h2

/-- A list read as a set of numbers below one: the set, and the error. -/
def bitsR (l : List Int) (below : Int) : Nat × Int :=
  if l.any (offP 0 (below - 1)) = true then (0, 4) else if risingL below (-1) l = true then (bitsS l, 0) else (0, 2)

theorem bits_c (l : List Int) (below : Int) (h0 : 0 ≤ below) (h1 : below ≤ 60) : PCall Try.prog 61 [ints l, .int .i64 below] (.tuple [.int .i64 (bitsR l below).1, .int .i64 (bitsR l below).2]) := by
  intro m
  (refine acall_len Try.call61 fun hlen => ?_; refine acall_intro (E := env fun _ => .imm) (envOk _) rfl Try.func61 rfl Try.call61 (by kernel_rfl) (by simp [Try.ntmps61]) ?_; simp only [Try.f61];  simp (maxSteps := 4000000) only [↓VP0, ↓VP1, ↓VP2, VQ0, VQ1, VQ2, VQ3, VQ4, VT, ite_self, ite_split, Nat.reduceEqDiff, Nat.reduceAdd, Nat.reduceSub, Nat.reduceMul, Nat.reduceLeDiff, Nat.reduceLT, Nat.reduceBEq, Int.reduceLE, Int.reduceLT, Int.reduceNeg, Int.reduceAdd, Int.reduceSub, Int.reduceToNat, ↓reduceIte, reduceCtorEq])
  simp only [ints, lenOk_cons, lenOk_nil, List.length_map, and_true, maxLen_eq] at hlen
  repeat' (first | intro _ | refine And.intro ?_ ?_)
  all_goals try (first | omega | (simp only [List.length_map, List.length_cons, List.length_nil, List.length_append, Nat.zero_add]; omega) | exact Int.natCast_nonneg _ | exact Int.le_trans (by decide) (Int.natCast_nonneg _) | exact Nat.le_of_ble_eq_true rfl)
  refine ACall.pure (off_c 0 (below - 1) l) ?_
  simp (maxSteps := 4000000) only [↓VP0, ↓VP1, ↓VP2, VQ0, VQ1, VQ2, VQ3, VQ4, VT, ite_self, ite_split, Nat.reduceEqDiff, Nat.reduceAdd, Nat.reduceSub, Nat.reduceMul, Nat.reduceLeDiff, Nat.reduceLT, Nat.reduceBEq, Int.reduceLE, Int.reduceLT, Int.reduceNeg, Int.reduceAdd, Int.reduceSub, Int.reduceToNat, ↓reduceIte, reduceCtorEq]
  repeat' (first | intro _ | refine And.intro ?_ ?_)
  · rename_i h
    simp [bitsR, h]
  · have hoff : ¬ l.any (offP 0 (below - 1)) = true := by assumption
    have hr : ∀ x ∈ l, 0 ≤ x ∧ x < below := fun x hx => by
      have := mt (fun h => List.any_eq_true.2 ⟨x, hx, h⟩) hoff
      simp [offP] at this
      omega
    refine aloop (envOk _) (fun k : Nat => ⟨[(0, .v (ints l)), (1, .v (.int .i64 below)), (4, .v (.int .i64 (bitsS (l.take k)))), (5, .v (.int .i64 0)), (12, .v (ints l)), (13, .v (.int .i64 l.length)), (14, .v (.int .i64 k))], [], [], m⟩)
      (fun k => k ≤ l.length ∧ risingL below (if k = 0 then -1 else l[k - 1]!) (l.drop k) = risingL below (-1) l) (fun k => l.length - k) 0 (fun _ => rfl) (by simp) (by simp [Fits, fitsV, fitsO, fitsL, upd, ints, bitsS]) ?_
    rintro k ⟨hk, hri⟩
    have hsm : bitsS (l.take k) < 2 ^ 60 := by
      have := bitsS_lt (b := 60) (l := l.take k) fun x hx => by have := hr x (List.mem_of_mem_take hx); omega
      exact this.resolve_right (by simp)
    have hpw : k < l.length → 0 ≤ l[k]! ∧ l[k]! < below ∧ 2 ^ l[k]!.toNat < 2 ^ 60 := fun hlt => by
      have h1 := hr _ (List.getElem_mem hlt)
      rw [getD_idx hlt]
      exact ⟨h1.1, h1.2, Nat.pow_lt_pow_right (by decide) (by omega)⟩
    simp (maxSteps := 4000000) only [↓VP0, ↓VP1, ↓VP2, VQ0, VQ1, VQ2, VQ3, VQ4, VT, ite_self, ite_split, Nat.reduceEqDiff, Nat.reduceAdd, Nat.reduceSub, Nat.reduceMul, Nat.reduceLeDiff, Nat.reduceLT, Nat.reduceBEq, Int.reduceLE, Int.reduceLT, Int.reduceNeg, Int.reduceAdd, Int.reduceSub, Int.reduceToNat, ↓reduceIte, reduceCtorEq]
    repeat' (first | intro _ | refine And.intro ?_ ?_)
    all_goals try (first | omega | (simp only [List.length_map, List.length_cons, List.length_nil, List.length_append, Nat.zero_add]; omega) | exact Int.natCast_nonneg _ | exact Int.le_trans (by decide) (Int.natCast_nonneg _) | exact Nat.le_of_ble_eq_true rfl)
    · have hlt : k < l.length := by omega
      have h3 : l[k]! ≤ l[((k : Int) - 1).toNat]! := by assumption
      rw [show ((k : Int) - 1).toNat = k - 1 by omega] at h3
      have hk0 : k ≠ 0 := by omega
      rw [if_neg hk0, List.drop_eq_getElem_cons hlt] at hri
      rw [getD_idx hlt] at h3
      have h4 : ¬ l[k - 1]! < l[k] := by omega
      have : risingL below (-1) l = false := by rw [← hri]; unfold risingL; simp only [h4, false_and, decide_false, Bool.false_and]
      simp [bitsR, hoff, this]
    · have hlt : k < l.length := by omega
      have h3 : ¬ l[k]! ≤ l[((k : Int) - 1).toNat]! := by assumption
      rw [show ((k : Int) - 1).toNat = k - 1 by omega] at h3
      have hk0 : k ≠ 0 := by omega
      rw [if_neg hk0, List.drop_eq_getElem_cons hlt] at hri
      have e1 : l[k]! = l[k] := getD_idx hlt
      have h4 : l[k - 1]! < l[k] := by omega
      have h5 : l[k] < below := by omega
      (refine ⟨k + 1, ?_, by dsimp only; omega, ?_⟩; rotate_left 1; · ((simp only [Fits, fitsV, fitsO, fitsL, ↓upd, ↓lookV, ↓lookO, ↓lookL, Nat.reduceEqDiff, ↓reduceIte, ints, and_true, true_and, Option.some.injEq]); try simp [bitsS_take hlt, e1]))
      refine ⟨by omega, ?_⟩
      rw [← hri, if_neg (by omega), Nat.add_sub_cancel, e1]
      simp only [risingL, h4, h5, and_self, decide_true, Bool.true_and]
    · have hlt : k < l.length := by omega
      have hk0 : k = 0 := by omega
      subst hk0
      have e1 : l[0]! = l[0] := getD_idx hlt
      rw [if_pos rfl, List.drop_eq_getElem_cons hlt] at hri
      have h4 : (-1 : Int) < l[0] := by omega
      have h5 : l[0] < below := by omega
      (refine ⟨0 + 1, ?_, by dsimp only; omega, ?_⟩; rotate_left 1; · ((simp only [Fits, fitsV, fitsO, fitsL, ↓upd, ↓lookV, ↓lookO, ↓lookL, Nat.reduceEqDiff, ↓reduceIte, ints, and_true, true_and, Option.some.injEq]); try simp [bitsS_take hlt, e1]))
      refine ⟨by omega, ?_⟩
      rw [← hri, if_neg (by omega), Nat.add_sub_cancel, e1]
      simp only [risingL, h4, h5, and_self, decide_true, Bool.true_and]
    · have hk2 : k = l.length := by omega
      rw [List.drop_eq_nil_of_le (by omega)] at hri
      have : risingL below (-1) l = true := by rw [← hri]; rfl
      simp [bitsR, hoff, this, hk2]

theorem lawbits_c (n b : Nat) (hn : n < 256) (hb : b ≤ 60) : PCall Try.prog 37 [.int .u8 n, .int .i64 b] (ints (listTo n b)) := by
  intro m
  (refine acall_intro (E := env fun _ => .imm) (envOk _) rfl Try.func37 rfl Try.call37 (by kernel_rfl) (by simp [Try.ntmps37]) ?_; simp only [Try.f37];  simp (maxSteps := 4000000) only [↓VP0, ↓VP1, ↓VP2, VQ0, VQ1, VQ2, VQ3, VQ4, VT, ite_self, ite_split, Nat.reduceEqDiff, Nat.reduceAdd, Nat.reduceSub, Nat.reduceMul, Nat.reduceLeDiff, Nat.reduceLT, Nat.reduceBEq, Int.reduceLE, Int.reduceLT, Int.reduceNeg, Int.reduceAdd, Int.reduceSub, Int.reduceToNat, ↓reduceIte, reduceCtorEq])
  refine aloop (envOk _) (fun k : Nat => ⟨[(0, .v (.int .u8 n)), (1, .v (.int .i64 b)), (5, .v (ints (listTo n k))), (6, .v (.int .i64 k))], [5], [], m⟩) (fun k => k ≤ b) (fun k => b - k) 0 (fun _ => rfl) (by simp) (by simp [Fits, fitsV, fitsO, fitsL, upd, ints, listTo]) ?_
  intro k hk
  have hlen := listTo_length n k
  have hle : n / 2 ^ k ≤ n := Nat.div_le_self _ _
  have hbit : n.testBit k = decide (n / 2 ^ k % 2 = 1) := Nat.testBit_eq_decide_div_mod_eq
  simp (maxSteps := 4000000) only [↓VP0, ↓VP1, ↓VP2, VQ0, VQ1, VQ2, VQ3, VQ4, VT, ite_self, ite_split, Nat.reduceEqDiff, Nat.reduceAdd, Nat.reduceSub, Nat.reduceMul, Nat.reduceLeDiff, Nat.reduceLT, Nat.reduceBEq, Int.reduceLE, Int.reduceLT, Int.reduceNeg, Int.reduceAdd, Int.reduceSub, Int.reduceToNat, ↓reduceIte, reduceCtorEq]
  repeat' (first | intro _ | refine And.intro ?_ ?_)
  all_goals try (first | omega | (simp only [List.length_map, List.length_cons, List.length_nil, List.length_append, Nat.zero_add]; omega) | exact Int.natCast_nonneg _ | exact Int.le_trans (by decide) (Int.natCast_nonneg _) | exact Nat.le_of_ble_eq_true rfl)
  · have h : ((n / 2 ^ k : Nat) : Int) % 2 = 1 := by assumption
    have h' : n.testBit k = true := by rw [hbit, decide_eq_true_eq]; omega
    (refine ⟨k + 1, by first | omega | (dsimp only; omega), by dsimp only; omega, ?_⟩; (simp only [Fits, fitsV, fitsO, fitsL, ↓upd, ↓lookV, ↓lookO, ↓lookL, Nat.reduceEqDiff, ↓reduceIte, ints, and_true, true_and, Option.some.injEq]); try simp [listTo_succ, h'])
  · have h : ¬ ((n / 2 ^ k : Nat) : Int) % 2 = 1 := by assumption
    have h' : n.testBit k = false := by rw [hbit, decide_eq_false_iff_not]; omega
    (refine ⟨k + 1, by first | omega | (dsimp only; omega), by dsimp only; omega, ?_⟩; (simp only [Fits, fitsV, fitsO, fitsL, ↓upd, ↓lookV, ↓lookO, ↓lookL, Nat.reduceEqDiff, ↓reduceIte, ints, and_true, true_and, Option.some.injEq]); try simp [listTo_succ, h'])
  · rw [show k = b by omega]

theorem subset_c (a b : List Int) : PCall Try.prog 43 [ints a, ints b] (.bool (a.all fun x => decide (x ∈ b))) := by
  intro m
  (refine acall_intro (E := env fun _ => .imm) (envOk _) rfl Try.func43 rfl Try.call43 (by kernel_rfl) (by simp [Try.ntmps43]) ?_; simp only [Try.f43];  simp (maxSteps := 4000000) only [↓VP0, ↓VP1, ↓VP2, VQ0, VQ1, VQ2, VQ3, VQ4, VT, ite_self, ite_split, Nat.reduceEqDiff, Nat.reduceAdd, Nat.reduceSub, Nat.reduceMul, Nat.reduceLeDiff, Nat.reduceLT, Nat.reduceBEq, Int.reduceLE, Int.reduceLT, Int.reduceNeg, Int.reduceAdd, Int.reduceSub, Int.reduceToNat, ↓reduceIte, reduceCtorEq])
  refine aloop (envOk _) (fun k : Nat => ⟨[(0, .v (ints a)), (1, .v (ints b)), (5, .v (.int .i64 k))], [], [], m⟩) (fun k => k ≤ a.length ∧ ∀ x ∈ a.take k, x ∈ b) (fun k => a.length - k) 0 (fun _ => rfl) (by simp) (by simp [Fits, fitsV, fitsO, fitsL, upd, ints]) ?_
  rintro k ⟨hk, hp⟩
  simp (maxSteps := 4000000) only [↓VP0, ↓VP1, ↓VP2, VQ0, VQ1, VQ2, VQ3, VQ4, VT, ite_self, ite_split, Nat.reduceEqDiff, Nat.reduceAdd, Nat.reduceSub, Nat.reduceMul, Nat.reduceLeDiff, Nat.reduceLT, Nat.reduceBEq, Int.reduceLE, Int.reduceLT, Int.reduceNeg, Int.reduceAdd, Int.reduceSub, Int.reduceToNat, ↓reduceIte, reduceCtorEq]
  repeat' (first | intro _ | refine And.intro ?_ ?_)
  all_goals try (first | omega | (simp only [List.length_map, List.length_cons, List.length_nil, List.length_append, Nat.zero_add]; omega) | exact Int.natCast_nonneg _ | exact Int.le_trans (by decide) (Int.natCast_nonneg _) | exact Nat.le_of_ble_eq_true rfl)
  · have hlt : k < a.length := by omega
    have e1 : a[k]! = a[k] := getD_idx hlt
    refine ACall.pure (has_c _ _) ?_
    simp (maxSteps := 4000000) only [↓VP0, ↓VP1, ↓VP2, VQ0, VQ1, VQ2, VQ3, VQ4, VT, ite_self, ite_split, Nat.reduceEqDiff, Nat.reduceAdd, Nat.reduceSub, Nat.reduceMul, Nat.reduceLeDiff, Nat.reduceLT, Nat.reduceBEq, Int.reduceLE, Int.reduceLT, Int.reduceNeg, Int.reduceAdd, Int.reduceSub, Int.reduceToNat, ↓reduceIte, reduceCtorEq]
    repeat' (first | intro _ | refine And.intro ?_ ?_)
    all_goals try (first | omega | (simp only [List.length_map, List.length_cons, List.length_nil, List.length_append, Nat.zero_add]; omega) | exact Int.natCast_nonneg _ | exact Int.le_trans (by decide) (Int.natCast_nonneg _) | exact Nat.le_of_ble_eq_true rfl)
    · have h : ¬ a[k]! ∈ b := by assumption
      have : (a.all fun x => decide (x ∈ b)) = false := by
        rw [Bool.eq_false_iff]; intro h'
        rw [List.all_eq_true] at h'
        exact h (by rw [e1]; simpa using h' _ (List.getElem_mem hlt))
      rw [this]
    · have h : a[k]! ∈ b := by
        apply Decidable.byContradiction; assumption
      (refine ⟨k + 1, ?_, by dsimp only; omega, ?_⟩; rotate_left 1; · ((simp only [Fits, fitsV, fitsO, fitsL, ↓upd, ↓lookV, ↓lookO, ↓lookL, Nat.reduceEqDiff, ↓reduceIte, ints, and_true, true_and, Option.some.injEq]); try simp [e1]))
      exact ⟨by omega, forall_take_succ hlt hp (by rw [← e1]; exact h)⟩
  · rw [List.take_of_length_le (by omega)] at hp
    have : (a.all fun x => decide (x ∈ b)) = true := by simpa using hp
    rw [this]

theorem rest_c (l but : List Int) (hl : l.length ≤ 1000) : PCall Try.prog 45 [ints l, ints but] (ints (l.filter fun x => decide (x ∉ but))) := by
  intro m
  (refine acall_intro (E := env fun _ => .imm) (envOk _) rfl Try.func45 rfl Try.call45 (by kernel_rfl) (by simp [Try.ntmps45]) ?_; simp only [Try.f45];  simp (maxSteps := 4000000) only [↓VP0, ↓VP1, ↓VP2, VQ0, VQ1, VQ2, VQ3, VQ4, VT, ite_self, ite_split, Nat.reduceEqDiff, Nat.reduceAdd, Nat.reduceSub, Nat.reduceMul, Nat.reduceLeDiff, Nat.reduceLT, Nat.reduceBEq, Int.reduceLE, Int.reduceLT, Int.reduceNeg, Int.reduceAdd, Int.reduceSub, Int.reduceToNat, ↓reduceIte, reduceCtorEq])
  refine aloop (envOk _) (fun k : Nat => ⟨[(0, .v (ints l)), (1, .v (ints but)), (5, .v (ints ((l.take k).filter fun x => decide (x ∉ but)))), (6, .v (.int .i64 k))], [5], [], m⟩) (fun k => k ≤ l.length) (fun k => l.length - k) 0 (fun _ => rfl) (by simp) (by simp [Fits, fitsV, fitsO, fitsL, upd, ints]) ?_
  intro k hk
  have hlen : ((l.take k).filter fun x => decide (x ∉ but)).length ≤ k := Nat.le_trans (List.length_filter_le _ _) (by rw [List.length_take]; omega)
  simp (maxSteps := 4000000) only [↓VP0, ↓VP1, ↓VP2, VQ0, VQ1, VQ2, VQ3, VQ4, VT, ite_self, ite_split, Nat.reduceEqDiff, Nat.reduceAdd, Nat.reduceSub, Nat.reduceMul, Nat.reduceLeDiff, Nat.reduceLT, Nat.reduceBEq, Int.reduceLE, Int.reduceLT, Int.reduceNeg, Int.reduceAdd, Int.reduceSub, Int.reduceToNat, ↓reduceIte, reduceCtorEq]
  repeat' (first | intro _ | refine And.intro ?_ ?_)
  all_goals try (first | omega | (simp only [List.length_map, List.length_cons, List.length_nil, List.length_append, Nat.zero_add]; omega) | exact Int.natCast_nonneg _ | exact Int.le_trans (by decide) (Int.natCast_nonneg _) | exact Nat.le_of_ble_eq_true rfl)
  · have hlt : k < l.length := by omega
    have e1 : l[k]! = l[k] := getD_idx hlt
    have e2 : l.take (k + 1) = l.take k ++ [l[k]] := List.take_succ_eq_append_getElem hlt
    refine ACall.pure (has_c _ _) ?_
    simp (maxSteps := 4000000) only [↓VP0, ↓VP1, ↓VP2, VQ0, VQ1, VQ2, VQ3, VQ4, VT, ite_self, ite_split, Nat.reduceEqDiff, Nat.reduceAdd, Nat.reduceSub, Nat.reduceMul, Nat.reduceLeDiff, Nat.reduceLT, Nat.reduceBEq, Int.reduceLE, Int.reduceLT, Int.reduceNeg, Int.reduceAdd, Int.reduceSub, Int.reduceToNat, ↓reduceIte, reduceCtorEq]
    repeat' (first | intro _ | refine And.intro ?_ ?_)
    all_goals try (first | omega | (simp only [List.length_map, List.length_cons, List.length_nil, List.length_append, Nat.zero_add]; omega) | exact Int.natCast_nonneg _ | exact Int.le_trans (by decide) (Int.natCast_nonneg _) | exact Nat.le_of_ble_eq_true rfl)
    · have h : ¬ l[k]! ∈ but := by assumption
      rw [e1] at h
      (refine ⟨k + 1, by first | omega | (dsimp only; omega), by dsimp only; omega, ?_⟩; (simp only [Fits, fitsV, fitsO, fitsL, ↓upd, ↓lookV, ↓lookO, ↓lookL, Nat.reduceEqDiff, ↓reduceIte, ints, and_true, true_and, Option.some.injEq]); try simp [-List.take_append_getElem, e1, e2, h])
    · have h : l[k]! ∈ but := by
        apply Decidable.byContradiction; assumption
      rw [e1] at h
      (refine ⟨k + 1, by first | omega | (dsimp only; omega), by dsimp only; omega, ?_⟩; (simp only [Fits, fitsV, fitsO, fitsL, ↓upd, ↓lookV, ↓lookO, ↓lookL, Nat.reduceEqDiff, ↓reduceIte, ints, and_true, true_and, Option.some.injEq]); try simp [-List.take_append_getElem, e1, e2, h])
  · rw [List.take_of_length_le (by omega : _ ≤ k)]

/-- The things of a list at some indices. -/
def pickL (l at_ : List Int) : List Int := at_.map fun i => l[i.toNat]!

theorem pick_c (l at_ : List Int) (hl : at_.length ≤ 1000) (h : ∀ i ∈ at_, 0 ≤ i ∧ i < l.length) : PCall Try.prog 77 [ints l, ints at_] (ints (pickL l at_)) := by
  intro m
  (refine acall_intro (E := env fun _ => .imm) (envOk _) rfl Try.func77 rfl Try.call77 (by kernel_rfl) (by simp [Try.ntmps77]) ?_; simp only [Try.f77];  simp (maxSteps := 4000000) only [↓VP0, ↓VP1, ↓VP2, VQ0, VQ1, VQ2, VQ3, VQ4, VT, ite_self, ite_split, Nat.reduceEqDiff, Nat.reduceAdd, Nat.reduceSub, Nat.reduceMul, Nat.reduceLeDiff, Nat.reduceLT, Nat.reduceBEq, Int.reduceLE, Int.reduceLT, Int.reduceNeg, Int.reduceAdd, Int.reduceSub, Int.reduceToNat, ↓reduceIte, reduceCtorEq])
  refine aloop (envOk _) (fun k : Nat => ⟨[(0, .v (ints l)), (1, .v (ints at_)), (5, .v (ints (pickL l (at_.take k)))), (6, .v (.int .i64 k))], [5], [], m⟩) (fun k => k ≤ at_.length) (fun k => at_.length - k) 0 (fun _ => rfl) (by simp) (by simp [Fits, fitsV, fitsO, fitsL, upd, ints, pickL]) ?_
  intro k hk
  have hlen : (pickL l (at_.take k)).length ≤ k := by rw [pickL, List.length_map, List.length_take]; omega
  have hin : k < at_.length → 0 ≤ at_[k]! ∧ at_[k]! < l.length := fun hlt => by
    rw [getD_idx hlt]; exact h _ (List.getElem_mem hlt)
  simp (maxSteps := 4000000) only [↓VP0, ↓VP1, ↓VP2, VQ0, VQ1, VQ2, VQ3, VQ4, VT, ite_self, ite_split, Nat.reduceEqDiff, Nat.reduceAdd, Nat.reduceSub, Nat.reduceMul, Nat.reduceLeDiff, Nat.reduceLT, Nat.reduceBEq, Int.reduceLE, Int.reduceLT, Int.reduceNeg, Int.reduceAdd, Int.reduceSub, Int.reduceToNat, ↓reduceIte, reduceCtorEq]
  repeat' (first | intro _ | refine And.intro ?_ ?_)
  all_goals try (first | omega | (simp only [List.length_map, List.length_cons, List.length_nil, List.length_append, Nat.zero_add]; omega) | exact Int.natCast_nonneg _ | exact Int.le_trans (by decide) (Int.natCast_nonneg _) | exact Nat.le_of_ble_eq_true rfl)
  · have hlt : k < at_.length := by omega
    have e1 : at_[k]! = at_[k] := getD_idx hlt
    have e2 : at_.take (k + 1) = at_.take k ++ [at_[k]] := List.take_succ_eq_append_getElem hlt
    (refine ⟨k + 1, by first | omega | (dsimp only; omega), by dsimp only; omega, ?_⟩; (simp only [Fits, fitsV, fitsO, fitsL, ↓upd, ↓lookV, ↓lookO, ↓lookL, Nat.reduceEqDiff, ↓reduceIte, ints, and_true, true_and, Option.some.injEq]); try simp [-List.take_append_getElem, e1, e2, pickL])
  · rw [List.take_of_length_le (by omega : _ ≤ k)]
end Go.Proofs.Ytakkdmdkelbnjaa.Abs

/- Contracts: names. -/
namespace Go.Proofs.Ytakkdmdkelbnjaa.Abs
set_option linter.unusedSimpArgs false
set_option maxHeartbeats 4000000
set_option maxRecDepth 100000
open Go Go.RowKit Go.Proofs

def strs (l : List ByteArray) : AV := .slice 1 (l.map AV.str)

theorem getD_any {α : Type} [Inhabited α] {l : List α} {k : Nat} (h : k < l.length) : l[k]! = l[k] := by
  rw [List.getElem!_eq_getElem?_getD, List.getElem?_eq_getElem h]; rfl

theorem where_c (l : List ByteArray) (s : ByteArray) : PCall Try.prog 84 [strs l, .str s] (.int .i64 (idxL (fun x => decide (x = s)) l)) := by
  intro m
  simp only [strs]
  (refine acall_intro (E := env fun _ => .imm) (envOk _) rfl Try.func84 rfl Try.call84 (by kernel_rfl) (by simp [Try.ntmps84]) ?_; simp only [Try.f84];  simp (maxSteps := 4000000) only [↓VP0, ↓VP1, ↓VP2, VQ0, VQ1, VQ2, VQ3, VQ4, VT, ite_self, ite_split, Nat.reduceEqDiff, Nat.reduceAdd, Nat.reduceSub, Nat.reduceMul, Nat.reduceLeDiff, Nat.reduceLT, Nat.reduceBEq, Int.reduceLE, Int.reduceLT, Int.reduceNeg, Int.reduceAdd, Int.reduceSub, Int.reduceToNat, ↓reduceIte, reduceCtorEq])
  refine aloop (envOk _) (fun k : Nat => ⟨[(0, .v (strs l)), (1, .v (.str s)), (5, .v (.int .i64 k))], [], [], m⟩) (fun k => k ≤ l.length ∧ ∀ x ∈ l.take k, x ≠ s) (fun k => l.length - k) 0 (fun _ => rfl) (by simp) (by simp [Fits, fitsV, fitsO, fitsL, upd, strs]) ?_
  rintro k ⟨hk, hp⟩
  simp only [strs]
  simp (maxSteps := 4000000) only [↓VP0, ↓VP1, ↓VP2, VQ0, VQ1, VQ2, VQ3, VQ4, VT, ite_self, ite_split, Nat.reduceEqDiff, Nat.reduceAdd, Nat.reduceSub, Nat.reduceMul, Nat.reduceLeDiff, Nat.reduceLT, Nat.reduceBEq, Int.reduceLE, Int.reduceLT, Int.reduceNeg, Int.reduceAdd, Int.reduceSub, Int.reduceToNat, ↓reduceIte, reduceCtorEq]
  repeat' (first | intro _ | refine And.intro ?_ ?_)
  all_goals try (first | omega | (simp only [List.length_map, List.length_cons, List.length_nil, List.length_append, Nat.zero_add]; omega) | exact Int.natCast_nonneg _ | exact Int.le_trans (by decide) (Int.natCast_nonneg _) | exact Nat.le_of_ble_eq_true rfl)
  · have hlt : k < l.length := by omega
    have h : l[k]! ≠ s := by assumption
    (refine ⟨k + 1, ?_, by dsimp only; omega, ?_⟩; rotate_left 1; · ((simp only [Fits, fitsV, fitsO, fitsL, ↓upd, ↓lookV, ↓lookO, ↓lookL, Nat.reduceEqDiff, ↓reduceIte, ints, and_true, true_and, Option.some.injEq]); try simp []))
    exact ⟨by omega, forall_take_succ hlt hp (by rw [← getD_any hlt]; exact h)⟩
  · have hlt : k < l.length := by omega
    have h : ¬ l[k]! ≠ s := by assumption
    rw [idxL_at hlt (fun x hx => by simpa using hp x hx) (by rw [← getD_any hlt]; simpa using h)]
  · rw [List.take_of_length_le (by omega)] at hp
    rw [idxL_neg (fun x hx => by simpa using hp x hx)]

theorem indexStr_c (l : List ByteArray) (s : ByteArray) : PCall Try.prog 83 [strs l, .str s] (.int .i64 (idxL (fun x => decide (x = s)) l)) := by
  intro m
  simp only [strs]
  (refine acall_len Try.call83 fun hlen => ?_; refine acall_intro (E := env fun _ => .imm) (envOk _) rfl Try.func83 rfl Try.call83 (by kernel_rfl) (by simp [Try.ntmps83]) ?_; simp only [Try.f83];  simp (maxSteps := 4000000) only [↓VP0, ↓VP1, ↓VP2, VQ0, VQ1, VQ2, VQ3, VQ4, VT, ite_self, ite_split, Nat.reduceEqDiff, Nat.reduceAdd, Nat.reduceSub, Nat.reduceMul, Nat.reduceLeDiff, Nat.reduceLT, Nat.reduceBEq, Int.reduceLE, Int.reduceLT, Int.reduceNeg, Int.reduceAdd, Int.reduceSub, Int.reduceToNat, ↓reduceIte, reduceCtorEq])
  simp only [lenOk_cons, lenOk_nil, List.length_map, and_true, maxLen_eq] at hlen
  intro _
  refine aloop (envOk _) (fun k : Nat => ⟨[(0, .v (strs l)), (1, .v (.str s)), (7, .v (.int .i64 l.length)), (8, .v (.int .i64 k))], [], [], m⟩) (fun k => k ≤ l.length ∧ ∀ x ∈ l.take k, x ≠ s) (fun k => l.length - k) 0 (fun _ => rfl) (by simp) (by simp [Fits, fitsV, fitsO, fitsL, upd, strs]) ?_
  rintro k ⟨hk, hp⟩
  simp only [strs]
  simp (maxSteps := 4000000) only [↓VP0, ↓VP1, ↓VP2, VQ0, VQ1, VQ2, VQ3, VQ4, VT, ite_self, ite_split, Nat.reduceEqDiff, Nat.reduceAdd, Nat.reduceSub, Nat.reduceMul, Nat.reduceLeDiff, Nat.reduceLT, Nat.reduceBEq, Int.reduceLE, Int.reduceLT, Int.reduceNeg, Int.reduceAdd, Int.reduceSub, Int.reduceToNat, ↓reduceIte, reduceCtorEq]
  repeat' (first | intro _ | refine And.intro ?_ ?_)
  all_goals try (first | omega | (simp only [List.length_map, List.length_cons, List.length_nil, List.length_append, Nat.zero_add]; omega) | exact Int.natCast_nonneg _ | exact Int.le_trans (by decide) (Int.natCast_nonneg _) | exact Nat.le_of_ble_eq_true rfl)
  · have hlt : k < l.length := by omega
    have h : s = l[k]! := by assumption
    rw [idxL_at hlt (fun x hx => by simpa using hp x hx) (by rw [← getD_any hlt]; simpa using h.symm)]
  · have hlt : k < l.length := by omega
    have h : ¬ s = l[k]! := by assumption
    (refine ⟨k + 1, ?_, by dsimp only; omega, ?_⟩; rotate_left 1; · ((simp only [Fits, fitsV, fitsO, fitsL, ↓upd, ↓lookV, ↓lookO, ↓lookL, Nat.reduceEqDiff, ↓reduceIte, ints, and_true, true_and, Option.some.injEq]); try simp []))
    exact ⟨by omega, forall_take_succ hlt hp (by rw [← getD_any hlt]; exact fun e => h e.symm)⟩
  · rw [List.take_of_length_le (by omega)] at hp
    rw [idxL_neg (fun x hx => by simpa using hp x hx)]

theorem containsStr_c (l : List ByteArray) (s : ByteArray) : PCall Try.prog 50 [strs l, .str s] (.bool (l.any fun x => decide (x = s))) := by
  intro m
  simp only [strs]
  (refine acall_intro (E := env fun _ => .imm) (envOk _) rfl Try.func50 rfl Try.call50 (by kernel_rfl) (by simp [Try.ntmps50]) ?_; simp only [Try.f50];  simp (maxSteps := 4000000) only [↓VP0, ↓VP1, ↓VP2, VQ0, VQ1, VQ2, VQ3, VQ4, VT, ite_self, ite_split, Nat.reduceEqDiff, Nat.reduceAdd, Nat.reduceSub, Nat.reduceMul, Nat.reduceLeDiff, Nat.reduceLT, Nat.reduceBEq, Int.reduceLE, Int.reduceLT, Int.reduceNeg, Int.reduceAdd, Int.reduceSub, Int.reduceToNat, ↓reduceIte, reduceCtorEq])
  refine ACall.pure (indexStr_c l s) ?_
  simp (maxSteps := 4000000) only [↓VP0, ↓VP1, ↓VP2, VQ0, VQ1, VQ2, VQ3, VQ4, VT, ite_self, ite_split, Nat.reduceEqDiff, Nat.reduceAdd, Nat.reduceSub, Nat.reduceMul, Nat.reduceLeDiff, Nat.reduceLT, Nat.reduceBEq, Int.reduceLE, Int.reduceLT, Int.reduceNeg, Int.reduceAdd, Int.reduceSub, Int.reduceToNat, ↓reduceIte, reduceCtorEq]
  repeat' (first | intro _ | refine And.intro ?_ ?_)
  rw [idxL_any]
end Go.Proofs.Ytakkdmdkelbnjaa.Abs

/- Contracts: names. -/
namespace Go.Proofs.Ytakkdmdkelbnjaa.Abs
set_option linter.unusedSimpArgs false
set_option maxHeartbeats 4000000
set_option maxRecDepth 100000
open Go Go.RowKit Go.Proofs

theorem sub_upd {m : Mem} {b : Nat} {y : Option Box} (h : m b = none) : ∀ b' x, m b' = some x → upd m b y b' = some x := by
  intro b' x hx
  have : b' ≠ b := by rintro rfl; rw [h] at hx; cases hx
  rw [upd_ne _ _ this]; exact hx

theorem forget_fin {m : Mem} {b : Nat} {y : Option Box} {R : Prop} (h : m b = none) (hR : R) : ∃ m'' : Mem, (∀ b' x, m'' b' = some x → (if b' = b then y else m b') = some x) ∧ R ∧ m'' = m :=
  ⟨m, fun b' x hx => by
    have : b' ≠ b := by rintro rfl; rw [h] at hx; cases hx
    rw [if_neg this]; exact hx, hR, rfl⟩

theorem upd_upd {α : Type} (f : Nat → α) (i : Nat) (x y : α) : upd (upd f i x) i y = upd f i y := by
  funext k
  by_cases e : k = i
  · subst e; rw [upd_same, upd_same]
  · rw [upd_ne _ _ e, upd_ne _ _ e, upd_ne _ _ e]

/-- May a byte stand at a place of a name? -/
def nameAt (i b : Nat) : Bool := decide ((97 ≤ b ∧ b ≤ 122) ∨ (0 < i ∧ (b = 46 ∨ (48 ≤ b ∧ b ≤ 57))))

def byteAt (s : ByteArray) (i : Nat) : Nat := (s.data.toList.getD i 0).toNat

theorem byte_fold (s : ByteArray) (k : Nat) : (s.data.toList.getD k 0).toNat = byteAt s k := rfl
theorem byteAt_lt (s : ByteArray) (k : Nat) : byteAt s k < 256 := UInt8.toNat_lt _
theorem range_all_succ (n : Nat) (p : Nat → Bool) : (List.range (n + 1)).all p = ((List.range n).all p && p n) := by
  rw [List.range_succ, List.all_append]; simp

/-- Is a string a name? -/
def nameB (s : ByteArray) : Bool := decide (1 ≤ s.size ∧ s.size ≤ 16) && (List.range s.size).all fun i => nameAt i (byteAt s i)

theorem nameB_all {s : ByteArray} (h : ∀ i < s.size, nameAt i (byteAt s i) = true) : nameB s = decide (1 ≤ s.size ∧ s.size ≤ 16) := by
  have : (List.range s.size).all (fun i => nameAt i (byteAt s i)) = true := by
    rw [List.all_eq_true]; intro i hi; exact h i (List.mem_range.1 hi)
  simp [nameB, this]

theorem nameB_not {s : ByteArray} {i : Nat} (hi : i < s.size) (h : nameAt i (byteAt s i) = false) : nameB s = false := by
  have : (List.range s.size).all (fun i => nameAt i (byteAt s i)) = false := by
    rw [Bool.eq_false_iff]; intro h'
    rw [List.all_eq_true] at h'
    have := h' i (List.mem_range.2 hi)
    rw [h] at this; cases this
  simp [nameB, this]

theorem refname_c (s : ByteArray) (hs : s.size ≤ 9223372036854775807) : PCall Try.prog 85 [.str s] (.bool (nameB s)) := by
  intro m
  (refine acall_intro (E := envC (fun _ => .imm) false [5, 6]) (envCOk _ _ _) rfl Try.func85 rfl Try.call85 (by kernel_rfl) (by simp [Try.ntmps85]) ?_; simp only [Try.f85];  simp (maxSteps := 4000000) only [↓VP0, ↓VP1, ↓VP2, VQ0, VQ1, VQ2, VQ3, VQ4, VT, ite_self, ite_split, Nat.reduceEqDiff, Nat.reduceAdd, Nat.reduceSub, Nat.reduceMul, Nat.reduceLeDiff, Nat.reduceLT, Nat.reduceBEq, Int.reduceLE, Int.reduceLT, Int.reduceNeg, Int.reduceAdd, Int.reduceSub, Int.reduceToNat, ↓reduceIte, reduceCtorEq])
  (refine ACall.pure (in_c _ _ _) ?_; try simp (maxSteps := 4000000) only [↓VP0, ↓VP1, ↓VP2, VQ0, VQ1, VQ2, VQ3, VQ4, VT, ite_self, ite_split, Nat.reduceEqDiff, Nat.reduceAdd, Nat.reduceSub, Nat.reduceMul, Nat.reduceLeDiff, Nat.reduceLT, Nat.reduceBEq, Int.reduceLE, Int.reduceLT, Int.reduceNeg, Int.reduceAdd, Int.reduceSub, Int.reduceToNat, ↓reduceIte, reduceCtorEq])
  refine aloop (envCOk _ _ _) (fun k : Nat => ⟨[(0, .v (.str s)), (3, .v (.bool (decide (1 ≤ (s.size : Int) ∧ (s.size : Int) ≤ 16) && (List.range k).all fun i => nameAt i (byteAt s i)))), (4, .v (.int .i64 k))], [], [], m⟩)
    (fun k => k ≤ s.size) (fun k => s.size - k) 0 (fun _ => rfl) (by simp) (by (simp only [Fits, fitsV, fitsO, fitsL, ↓upd, ↓lookV, ↓lookO, ↓lookL, Nat.reduceEqDiff, ↓reduceIte, ints, and_true, true_and, Option.some.injEq]); try simp) ?_
  intro k hk
  have hb := byteAt_lt s k
  simp (maxSteps := 4000000) only [↓VP0, ↓VP1, ↓VP2, VQ0, VQ1, VQ2, VQ3, VQ4, VT, ite_self, ite_split, Nat.reduceEqDiff, Nat.reduceAdd, Nat.reduceSub, Nat.reduceMul, Nat.reduceLeDiff, Nat.reduceLT, Nat.reduceBEq, Int.reduceLE, Int.reduceLT, Int.reduceNeg, Int.reduceAdd, Int.reduceSub, Int.reduceToNat, ↓reduceIte, reduceCtorEq]
  repeat' (first | intro _ | refine And.intro ?_ ?_)
  all_goals try (first | omega | (simp only [List.length_map, List.length_cons, List.length_nil, List.length_append, Nat.zero_add]; omega) | exact Int.natCast_nonneg _ | exact Int.le_trans (by decide) (Int.natCast_nonneg _) | exact Nat.le_of_ble_eq_true rfl)
  · refine acut (envCOk _ _ _) (fun _ : Unit => ⟨[(0, .v (.str s)), (3, .v (.bool (decide (1 ≤ (s.size : Int) ∧ (s.size : Int) ≤ 16) && (List.range k).all fun i => nameAt i (byteAt s i)))), (4, .v (.int .i64 k)),
      (5, .v (.bool (decide (0 < k ∧ (byteAt s k = 46 ∨ (48 ≤ byteAt s k ∧ byteAt s k ≤ 57))))))], [], [], m⟩) (fun _ => True) (fun _ => rfl) ?_ ?_
    · simp (maxSteps := 4000000) only [↓VP0, ↓VP1, ↓VP2, VQ0, VQ1, VQ2, VQ3, VQ4, VT, ite_self, ite_split, Nat.reduceEqDiff, Nat.reduceAdd, Nat.reduceSub, Nat.reduceMul, Nat.reduceLeDiff, Nat.reduceLT, Nat.reduceBEq, Int.reduceLE, Int.reduceLT, Int.reduceNeg, Int.reduceAdd, Int.reduceSub, Int.reduceToNat, ↓reduceIte, reduceCtorEq, byte_fold]
      repeat' (first | intro _ | refine And.intro ?_ ?_)
      all_goals try (first | omega | (simp only [List.length_map, List.length_cons, List.length_nil, List.length_append, Nat.zero_add]; omega) | exact Int.natCast_nonneg _ | exact Int.le_trans (by decide) (Int.natCast_nonneg _) | exact Nat.le_of_ble_eq_true rfl)
      all_goals try ((refine ACall.pure (in_c _ _ _) ?_; try simp (maxSteps := 4000000) only [↓VP0, ↓VP1, ↓VP2, VQ0, VQ1, VQ2, VQ3, VQ4, VT, ite_self, ite_split, Nat.reduceEqDiff, Nat.reduceAdd, Nat.reduceSub, Nat.reduceMul, Nat.reduceLeDiff, Nat.reduceLT, Nat.reduceBEq, Int.reduceLE, Int.reduceLT, Int.reduceNeg, Int.reduceAdd, Int.reduceSub, Int.reduceToNat, ↓reduceIte, reduceCtorEq]))
      all_goals repeat' (first | intro _ | refine And.intro ?_ ?_)
      all_goals (refine ⟨(), ?_⟩; (simp only [Fits, fitsV, fitsO, fitsL, ↓upd, ↓lookV, ↓lookO, ↓lookL, Nat.reduceEqDiff, ↓reduceIte, ints, and_true, true_and, Option.some.injEq]))
      all_goals (congr 2; rw [Bool.eq_iff_iff]; simp only [decide_eq_true_eq, Bool.and_eq_true, Bool.or_eq_true, Bool.not_eq_true', decide_eq_false_iff_not, true_iff, false_iff, iff_true, iff_false, Bool.true_eq_false, Bool.false_eq_true, and_false, false_and, and_true, true_and]; omega)
    · intro _ _
      simp (maxSteps := 4000000) only [↓VP0, ↓VP1, ↓VP2, VQ0, VQ1, VQ2, VQ3, VQ4, VT, ite_self, ite_split, Nat.reduceEqDiff, Nat.reduceAdd, Nat.reduceSub, Nat.reduceMul, Nat.reduceLeDiff, Nat.reduceLT, Nat.reduceBEq, Int.reduceLE, Int.reduceLT, Int.reduceNeg, Int.reduceAdd, Int.reduceSub, Int.reduceToNat, ↓reduceIte, reduceCtorEq]
      refine acut (envCOk _ _ _) (fun _ : Unit => ⟨[(0, .v (.str s)), (3, .v (.bool (decide (1 ≤ (s.size : Int) ∧ (s.size : Int) ≤ 16) && (List.range (k + 1)).all fun i => nameAt i (byteAt s i)))), (4, .v (.int .i64 k))], [], [], m⟩) (fun _ => True) (fun _ => rfl) ?_ ?_
      · simp (maxSteps := 4000000) only [↓VP0, ↓VP1, ↓VP2, VQ0, VQ1, VQ2, VQ3, VQ4, VT, ite_self, ite_split, Nat.reduceEqDiff, Nat.reduceAdd, Nat.reduceSub, Nat.reduceMul, Nat.reduceLeDiff, Nat.reduceLT, Nat.reduceBEq, Int.reduceLE, Int.reduceLT, Int.reduceNeg, Int.reduceAdd, Int.reduceSub, Int.reduceToNat, ↓reduceIte, reduceCtorEq, byte_fold]
        repeat' (first | intro _ | refine And.intro ?_ ?_)
        all_goals try (first | omega | (simp only [List.length_map, List.length_cons, List.length_nil, List.length_append, Nat.zero_add]; omega) | exact Int.natCast_nonneg _ | exact Int.le_trans (by decide) (Int.natCast_nonneg _) | exact Nat.le_of_ble_eq_true rfl)
        all_goals try ((refine ACall.pure (in_c _ _ _) ?_; try simp (maxSteps := 4000000) only [↓VP0, ↓VP1, ↓VP2, VQ0, VQ1, VQ2, VQ3, VQ4, VT, ite_self, ite_split, Nat.reduceEqDiff, Nat.reduceAdd, Nat.reduceSub, Nat.reduceMul, Nat.reduceLeDiff, Nat.reduceLT, Nat.reduceBEq, Int.reduceLE, Int.reduceLT, Int.reduceNeg, Int.reduceAdd, Int.reduceSub, Int.reduceToNat, ↓reduceIte, reduceCtorEq]))
        all_goals repeat' (first | intro _ | refine And.intro ?_ ?_)
        all_goals (refine ⟨(), ?_⟩; (simp only [Fits, fitsV, fitsO, fitsL, ↓upd, ↓lookV, ↓lookO, ↓lookL, Nat.reduceEqDiff, ↓reduceIte, ints, and_true, true_and, Option.some.injEq]); rw [range_all_succ, ← Bool.and_assoc])
        · have h3 : (decide (1 ≤ (s.size : Int) ∧ (s.size : Int) ≤ 16) && (List.range k).all fun i => nameAt i (byteAt s i)) = true := by assumption
          rw [h3, Bool.true_and, nameAt]; congr 2; rw [decide_eq_decide]; omega
        · have h3 : (decide (1 ≤ (s.size : Int) ∧ (s.size : Int) ≤ 16) && (List.range k).all fun i => nameAt i (byteAt s i)) = true := by assumption
          rw [h3, Bool.true_and, nameAt]; congr 2; exact (decide_eq_true (by omega)).symm
        · rename_i h3
          rw [Bool.eq_false_iff.2 h3]; simp
      · intro _ _
        simp (maxSteps := 4000000) only [↓VP0, ↓VP1, ↓VP2, VQ0, VQ1, VQ2, VQ3, VQ4, VT, ite_self, ite_split, Nat.reduceEqDiff, Nat.reduceAdd, Nat.reduceSub, Nat.reduceMul, Nat.reduceLeDiff, Nat.reduceLT, Nat.reduceBEq, Int.reduceLE, Int.reduceLT, Int.reduceNeg, Int.reduceAdd, Int.reduceSub, Int.reduceToNat, ↓reduceIte, reduceCtorEq]
        repeat' (first | intro _ | refine And.intro ?_ ?_)
        all_goals try (first | omega | (simp only [List.length_map, List.length_cons, List.length_nil, List.length_append, Nat.zero_add]; omega) | exact Int.natCast_nonneg _ | exact Int.le_trans (by decide) (Int.natCast_nonneg _) | exact Nat.le_of_ble_eq_true rfl)
        refine ⟨k + 1, by dsimp only; omega, by dsimp only; omega, ?_⟩
        (simp only [Fits, fitsV, fitsO, fitsL, ↓upd, ↓lookV, ↓lookO, ↓lookL, Nat.reduceEqDiff, ↓reduceIte, ints, and_true, true_and, Option.some.injEq])
        simp
  · have : nameB s = (decide (1 ≤ (s.size : Int) ∧ (s.size : Int) ≤ 16) && (List.range k).all fun i => nameAt i (byteAt s i)) := by
      have e : k = s.size := by omega
      have h1 : decide (1 ≤ s.size ∧ s.size ≤ 16) = decide (1 ≤ (s.size : Int) ∧ (s.size : Int) ≤ 16) := by rw [decide_eq_decide]; omega
      rw [e, nameB, h1]
    rw [this]

theorem byteAt_get (s : ByteArray) {k : Nat} (h : k < s.size) : byteAt s k = (s[k]'h).toNat := by
  have h' : k < s.data.toList.length := by simpa using h
  unfold byteAt
  rw [List.getD_eq_getElem?_getD, List.getElem?_eq_getElem h']
  rfl

theorem decode_low {s : ByteArray} {k : Nat} (h : k < s.size) (ha : byteAt s k < 128) : Utf8.decode s k = (byteAt s k, 1) := by
  rw [byteAt_get s h] at ha ⊢; exact decode_ascii s k h ha
theorem decode_hi {s : ByteArray} {k : Nat} (h : k < s.size) (ha : 128 ≤ byteAt s k) : 128 ≤ (Utf8.decode s k).1 ∧ 1 ≤ (Utf8.decode s k).2 := by
  rw [byteAt_get s h] at ha; exact decode_high s k h ha

theorem name_key {s : ByteArray} {k : Nat} (h : k < s.size) : (nameAt k (Utf8.decode s k).1 = true → Utf8.decode s k = (byteAt s k, 1) ∧ nameAt k (byteAt s k) = true) ∧
    (nameAt k (Utf8.decode s k).1 = false → nameAt k (byteAt s k) = false) := by
  by_cases hb : byteAt s k < 128
  · rw [decode_low h hb]; exact ⟨fun h' => ⟨rfl, h'⟩, fun h' => h'⟩
  · have h1 := (decode_hi h (by omega)).1
    have h2 : nameAt k (Utf8.decode s k).1 = false := decide_eq_false (by omega)
    have h3 : nameAt k (byteAt s k) = false := decide_eq_false (by omega)
    rw [h2]; exact ⟨fun h => (by cases h), fun _ => h3⟩

theorem name_c (s : ByteArray) (hs : s.size ≤ 9223372036854775807) : PCall Try.prog 49 [.str s] (.bool (nameB s)) := by
  intro m
  refine ACall.forget ?_
  (refine acall_intro (E := envC (fun _ => .imm) false [4]) (envCOk _ _ _) rfl Try.func49 rfl Try.call49 (by kernel_rfl) (by simp [Try.ntmps49]) ?_; simp only [Try.f49];  simp (maxSteps := 4000000) only [↓VP0, ↓VP1, ↓VP2, VQ0, VQ1, VQ2, VQ3, VQ4, VT, ite_self, ite_split, Nat.reduceEqDiff, Nat.reduceAdd, Nat.reduceSub, Nat.reduceMul, Nat.reduceLeDiff, Nat.reduceLT, Nat.reduceBEq, Int.reduceLE, Int.reduceLT, Int.reduceNeg, Int.reduceAdd, Int.reduceSub, Int.reduceToNat, ↓reduceIte, reduceCtorEq])
  intro b hmb
  refine aloop (envCOk _ _ _) (fun k : Nat => ⟨[(0, .v (.str s)), (7, .v (.ptr b 0))], [], [], upd m b (some (.iter s k))⟩)
    (fun k => k ≤ s.size ∧ ∀ i < k, nameAt i (byteAt s i) = true) (fun k => s.size - k) 0 (fun _ => rfl) (by simp) (by (simp only [Fits, fitsV, fitsO, fitsL, ↓upd, ↓lookV, ↓lookO, ↓lookL, Nat.reduceEqDiff, ↓reduceIte, ints, and_true, true_and, Option.some.injEq]); try simp) ?_
  rintro k ⟨hk, hp⟩
  simp (maxSteps := 4000000) only [↓VP0, ↓VP1, ↓VP2, VQ0, VQ1, VQ2, VQ3, VQ4, VT, ite_self, ite_split, Nat.reduceEqDiff, Nat.reduceAdd, Nat.reduceSub, Nat.reduceMul, Nat.reduceLeDiff, Nat.reduceLT, Nat.reduceBEq, Int.reduceLE, Int.reduceLT, Int.reduceNeg, Int.reduceAdd, Int.reduceSub, Int.reduceToNat, ↓reduceIte, reduceCtorEq]
  repeat' (first | intro _ | refine And.intro ?_ ?_)
  all_goals try (first | omega | (simp only [List.length_map, List.length_cons, List.length_nil, List.length_append, Nat.zero_add]; omega) | exact Int.natCast_nonneg _ | exact Int.le_trans (by decide) (Int.natCast_nonneg _) | exact Nat.le_of_ble_eq_true rfl)
  · rename_i hlt
    obtain ⟨k1, k2⟩ := name_key hlt
    refine acut (envCOk _ _ _) (fun _ : Unit => ⟨[(0, .v (.str s)), (3, .v (.int .i64 k)), (4, .v (.int .i32 (Utf8.decode s k).1)), (5, .v (.bool (decide (97 ≤ (Utf8.decode s k).1 ∧ (Utf8.decode s k).1 ≤ 122)))), (7, .v (.ptr b 0))], [], [],
      upd m b (some (.iter s (k + (Utf8.decode s k).2)))⟩) (fun _ => True) (fun _ => rfl) ?_ ?_
    · simp (maxSteps := 4000000) only [↓VP0, ↓VP1, ↓VP2, VQ0, VQ1, VQ2, VQ3, VQ4, VT, ite_self, ite_split, Nat.reduceEqDiff, Nat.reduceAdd, Nat.reduceSub, Nat.reduceMul, Nat.reduceLeDiff, Nat.reduceLT, Nat.reduceBEq, Int.reduceLE, Int.reduceLT, Int.reduceNeg, Int.reduceAdd, Int.reduceSub, Int.reduceToNat, ↓reduceIte, reduceCtorEq]
      repeat' (first | intro _ | refine And.intro ?_ ?_)
      all_goals try (first | omega | (simp only [List.length_map, List.length_cons, List.length_nil, List.length_append, Nat.zero_add]; omega) | exact Int.natCast_nonneg _ | exact Int.le_trans (by decide) (Int.natCast_nonneg _) | exact Nat.le_of_ble_eq_true rfl)
      all_goals (refine ⟨(), ?_⟩; (simp only [Fits, fitsV, fitsO, fitsL, ↓upd, ↓lookV, ↓lookO, ↓lookL, Nat.reduceEqDiff, ↓reduceIte, ints, and_true, true_and, Option.some.injEq]); refine ⟨?_, upd_upd _ _ _ _⟩)
      all_goals (congr 2; rw [Bool.eq_iff_iff]; simp only [decide_eq_true_eq, Bool.and_eq_true, Bool.or_eq_true, Bool.not_eq_true', decide_eq_false_iff_not, true_iff, false_iff, iff_true, iff_false, Bool.true_eq_false, Bool.false_eq_true, and_false, false_and, and_true, true_and]; omega)
    · intro _ _
      simp (maxSteps := 4000000) only [↓VP0, ↓VP1, ↓VP2, VQ0, VQ1, VQ2, VQ3, VQ4, VT, ite_self, ite_split, Nat.reduceEqDiff, Nat.reduceAdd, Nat.reduceSub, Nat.reduceMul, Nat.reduceLeDiff, Nat.reduceLT, Nat.reduceBEq, Int.reduceLE, Int.reduceLT, Int.reduceNeg, Int.reduceAdd, Int.reduceSub, Int.reduceToNat, ↓reduceIte, reduceCtorEq]
      repeat' (first | intro _ | refine And.intro ?_ ?_)
      all_goals try (first | omega | (simp only [List.length_map, List.length_cons, List.length_nil, List.length_append, Nat.zero_add]; omega) | exact Int.natCast_nonneg _ | exact Int.le_trans (by decide) (Int.natCast_nonneg _) | exact Nat.le_of_ble_eq_true rfl)
      all_goals try (refine forget_fin hmb ?_; rw [nameB_not hlt (k2 (decide_eq_false (by omega)))])
      all_goals
        obtain ⟨k3, k4⟩ := k1 (decide_eq_true (by omega))
        refine ⟨k + 1, ⟨by omega, fun i hi => ?_⟩, by dsimp only; omega, ?_⟩
        · by_cases e : i = k
          · subst e; exact k4
          · exact hp i (by omega)
        · (simp only [Fits, fitsV, fitsO, fitsL, ↓upd, ↓lookV, ↓lookO, ↓lookL, Nat.reduceEqDiff, ↓reduceIte, ints, and_true, true_and, Option.some.injEq])
          rw [k3]
  · (refine ACall.pure (beyond_c 1 16 [(s.size : Int)]) ?_; try simp (maxSteps := 4000000) only [↓VP0, ↓VP1, ↓VP2, VQ0, VQ1, VQ2, VQ3, VQ4, VT, ite_self, ite_split, Nat.reduceEqDiff, Nat.reduceAdd, Nat.reduceSub, Nat.reduceMul, Nat.reduceLeDiff, Nat.reduceLT, Nat.reduceBEq, Int.reduceLE, Int.reduceLT, Int.reduceNeg, Int.reduceAdd, Int.reduceSub, Int.reduceToNat, ↓reduceIte, reduceCtorEq])
    refine forget_fin hmb ?_
    rw [nameB_all fun i hi => hp i (by omega)]
    simp [offP]
    rw [Bool.eq_iff_iff]
    simp
    omega
end Go.Proofs.Ytakkdmdkelbnjaa.Abs

/- Contracts: the checks of a chest. -/
namespace Go.Proofs.Ytakkdmdkelbnjaa.Abs
set_option linter.unusedSimpArgs false
set_option maxHeartbeats 4000000
set_option maxRecDepth 100000
open Go Go.RowKit Go.Proofs

structure RCopy where
  number : Int
  words : Int
  facts : Int
  may : Int
deriving Inhabited

structure RRule where
  if_ : Int
  then_ : Int
deriving Inhabited

structure RChest where
  words : Int
  facts : Int
  people : List ByteArray
  last : Int
  copies : List RCopy
  rules : List RRule

def copyA (x : RCopy) : AV := .agg [.int .i64 x.number, .int .i64 x.words, .int .i64 x.facts, .int .i64 x.may]
def ruleA (x : RRule) : AV := .agg [.int .i64 x.if_, .int .i64 x.then_]
def chestL (c : RChest) : List AV := [.int .i64 c.words, .int .i64 c.facts, strs c.people, .int .i64 c.last, .slice 4 (c.copies.map copyA), .slice 2 (c.rules.map ruleA)]
def chestA (c : RChest) : AV := .agg (chestL c)

/-- The first index with an error, and the error. -/
def failFrom {α : Type} (f : Nat → α → Int) : Nat → List α → Int × Int
  | _, [] => (0, 0)
  | k, x :: xs => if f k x ≠ 0 then ((k : Int), f k x) else failFrom f (k + 1) xs

theorem failFrom_hit {α : Type} {f : Nat → α → Int} {k : Nat} {x : α} {xs : List α} (h : f k x ≠ 0) : failFrom f k (x :: xs) = ((k : Int), f k x) := if_pos h
theorem failFrom_skip {α : Type} {f : Nat → α → Int} {k : Nat} {x : α} {xs : List α} (h : ¬ f k x ≠ 0) : failFrom f k (x :: xs) = failFrom f (k + 1) xs := if_neg h

theorem failingStr_c (g : FuncId) (caps : List AV) (l : List ByteArray) (f : Nat → ByteArray → Int) (h : ∀ (i : Nat) (hi : i < l.length), PCall Try.prog g ([.int .i64 i, .str l[i]] ++ caps) (.int .i64 (f i l[i]))) :
    PCall Try.prog 47 [strs l, .fn (.func g) [] caps] (.tuple [.int .i64 (failFrom f 0 l).1, .int .i64 (failFrom f 0 l).2]) := by
  intro m
  simp only [strs]
  (refine acall_len Try.call47 fun hlen => ?_; refine acall_intro (E := env fun _ => .imm) (envOk _) rfl Try.func47 rfl Try.call47 (by kernel_rfl) (by simp [Try.ntmps47]) ?_; simp only [Try.f47];  simp (maxSteps := 4000000) only [↓VP0, ↓VP1, ↓VP2, VQ0, VQ1, VQ2, VQ3, VQ4, VT, ite_self, ite_split, Nat.reduceEqDiff, Nat.reduceAdd, Nat.reduceSub, Nat.reduceMul, Nat.reduceLeDiff, Nat.reduceLT, Nat.reduceBEq, Int.reduceLE, Int.reduceLT, Int.reduceNeg, Int.reduceAdd, Int.reduceSub, Int.reduceToNat, ↓reduceIte, reduceCtorEq])
  simp only [lenOk_cons, lenOk_nil, List.length_map, and_true, maxLen_eq] at hlen
  intro _
  refine aloop (envOk _) (fun k : Nat => ⟨[(0, .v (.slice 1 (l.map AV.str))), (1, .v (.fn (.func g) [] caps)), (9, .v (.slice 1 (l.map AV.str))), (10, .v (.int .i64 l.length)), (11, .v (.int .i64 k))], [], [], m⟩)
    (fun k => k ≤ l.length ∧ failFrom f k (l.drop k) = failFrom f 0 l) (fun k => l.length - k) 0 (fun _ => rfl) (by simp) (by (simp only [Fits, fitsV, fitsO, fitsL, ↓upd, ↓lookV, ↓lookO, ↓lookL, Nat.reduceEqDiff, ↓reduceIte, ints, and_true, true_and, Option.some.injEq]); try simp) ?_
  rintro k ⟨hk, hf⟩
  simp (maxSteps := 4000000) only [↓VP0, ↓VP1, ↓VP2, VQ0, VQ1, VQ2, VQ3, VQ4, VT, ite_self, ite_split, Nat.reduceEqDiff, Nat.reduceAdd, Nat.reduceSub, Nat.reduceMul, Nat.reduceLeDiff, Nat.reduceLT, Nat.reduceBEq, Int.reduceLE, Int.reduceLT, Int.reduceNeg, Int.reduceAdd, Int.reduceSub, Int.reduceToNat, ↓reduceIte, reduceCtorEq]
  repeat' (first | intro _ | refine And.intro ?_ ?_)
  all_goals try (first | omega | (simp only [List.length_map, List.length_cons, List.length_nil, List.length_append, Nat.zero_add]; omega) | exact Int.natCast_nonneg _ | exact Int.le_trans (by decide) (Int.natCast_nonneg _) | exact Nat.le_of_ble_eq_true rfl)
  · have hlt : k < l.length := by omega
    have e1 : l[k]! = l[k] := getD_any hlt
    rw [List.drop_eq_getElem_cons hlt] at hf
    have hc := h k hlt
    simp only [strs, List.cons_append, List.nil_append] at hc
    rw [← e1] at hc
    refine ACall.pure hc ?_
    simp (maxSteps := 4000000) only [↓VP0, ↓VP1, ↓VP2, VQ0, VQ1, VQ2, VQ3, VQ4, VT, ite_self, ite_split, Nat.reduceEqDiff, Nat.reduceAdd, Nat.reduceSub, Nat.reduceMul, Nat.reduceLeDiff, Nat.reduceLT, Nat.reduceBEq, Int.reduceLE, Int.reduceLT, Int.reduceNeg, Int.reduceAdd, Int.reduceSub, Int.reduceToNat, ↓reduceIte, reduceCtorEq]
    repeat' (first | intro _ | refine And.intro ?_ ?_)
    all_goals try (first | omega | (simp only [List.length_map, List.length_cons, List.length_nil, List.length_append, Nat.zero_add]; omega) | exact Int.natCast_nonneg _ | exact Int.le_trans (by decide) (Int.natCast_nonneg _) | exact Nat.le_of_ble_eq_true rfl)
    · have hne : f k l[k]! ≠ 0 := by assumption
      rw [e1] at hne
      rw [← hf, failFrom_hit hne, e1]
    · have heq : ¬ f k l[k]! ≠ 0 := by assumption
      rw [e1] at heq
      rw [failFrom_skip heq] at hf
      (refine ⟨k + 1, ?_, by dsimp only; omega, ?_⟩; rotate_left 1; · ((simp only [Fits, fitsV, fitsO, fitsL, ↓upd, ↓lookV, ↓lookO, ↓lookL, Nat.reduceEqDiff, ↓reduceIte, ints, and_true, true_and, Option.some.injEq]); try simp []))
      exact ⟨by omega, hf⟩
  · rw [List.drop_eq_nil_of_le (by omega)] at hf
    rw [← hf]; rfl

theorem failingCopy_c (g : FuncId) (caps : List AV) (l : List RCopy) (f : Nat → RCopy → Int) (h : ∀ (i : Nat) (hi : i < l.length), PCall Try.prog g ([.int .i64 i, copyA l[i]] ++ caps) (.int .i64 (f i l[i]))) :
    PCall Try.prog 51 [.slice 4 (l.map copyA), .fn (.func g) [] caps] (.tuple [.int .i64 (failFrom f 0 l).1, .int .i64 (failFrom f 0 l).2]) := by
  intro m
  refine acall_len Try.call51 fun hlen => ?_; (refine acall_intro (E := envC (modeAt [7] []) false []) (envCOk _ _ _) rfl Try.func51 rfl Try.call51 (by kernel_rfl) (by simp [Try.ntmps51]) ?_; simp only [Try.f51];  simp (maxSteps := 4000000) only [↓VP0, ↓VP1, ↓VP2, VQ0, VQ1, VQ2, VQ3, VQ4, VT, ite_self, ite_split, Nat.reduceEqDiff, Nat.reduceAdd, Nat.reduceSub, Nat.reduceMul, Nat.reduceLeDiff, Nat.reduceLT, Nat.reduceBEq, Int.reduceLE, Int.reduceLT, Int.reduceNeg, Int.reduceAdd, Int.reduceSub, Int.reduceToNat, ↓reduceIte, reduceCtorEq])
  simp only [lenOk_cons, lenOk_nil, List.length_map, and_true, maxLen_eq] at hlen
  intro _
  refine aloop (envCOk _ _ _) (fun k : Nat => ⟨[(0, .v (.slice 4 (l.map copyA))), (1, .v (.fn (.func g) [] caps)), (9, .v (.slice 4 (l.map copyA))), (10, .v (.int .i64 l.length)), (11, .v (.int .i64 k))], [], [], m⟩)
    (fun k => k ≤ l.length ∧ failFrom f k (l.drop k) = failFrom f 0 l) (fun k => l.length - k) 0 (fun _ => rfl) (by simp) (by (simp only [Fits, fitsV, fitsO, fitsL, ↓upd, ↓lookV, ↓lookO, ↓lookL, Nat.reduceEqDiff, ↓reduceIte, ints, and_true, true_and, Option.some.injEq]); try simp) ?_
  rintro k ⟨hk, hf⟩
  simp (maxSteps := 4000000) only [↓VP0, ↓VP1, ↓VP2, VQ0, VQ1, VQ2, VQ3, VQ4, VT, ite_self, ite_split, Nat.reduceEqDiff, Nat.reduceAdd, Nat.reduceSub, Nat.reduceMul, Nat.reduceLeDiff, Nat.reduceLT, Nat.reduceBEq, Int.reduceLE, Int.reduceLT, Int.reduceNeg, Int.reduceAdd, Int.reduceSub, Int.reduceToNat, ↓reduceIte, reduceCtorEq, copyA]
  repeat' (first | intro _ | refine And.intro ?_ ?_)
  all_goals try (first | omega | (simp only [List.length_map, List.length_cons, List.length_nil, List.length_append, Nat.zero_add]; omega) | exact Int.natCast_nonneg _ | exact Int.le_trans (by decide) (Int.natCast_nonneg _) | exact Nat.le_of_ble_eq_true rfl)
  · have hlt : k < l.length := by omega
    have e1 : l[k]! = l[k] := getD_any hlt
    rw [List.drop_eq_getElem_cons hlt] at hf
    have hc := h k hlt
    simp only [copyA, List.cons_append, List.nil_append] at hc
    rw [← e1] at hc
    refine ACall.pure hc ?_
    simp (maxSteps := 4000000) only [↓VP0, ↓VP1, ↓VP2, VQ0, VQ1, VQ2, VQ3, VQ4, VT, ite_self, ite_split, Nat.reduceEqDiff, Nat.reduceAdd, Nat.reduceSub, Nat.reduceMul, Nat.reduceLeDiff, Nat.reduceLT, Nat.reduceBEq, Int.reduceLE, Int.reduceLT, Int.reduceNeg, Int.reduceAdd, Int.reduceSub, Int.reduceToNat, ↓reduceIte, reduceCtorEq]
    repeat' (first | intro _ | refine And.intro ?_ ?_)
    all_goals try (first | omega | (simp only [List.length_map, List.length_cons, List.length_nil, List.length_append, Nat.zero_add]; omega) | exact Int.natCast_nonneg _ | exact Int.le_trans (by decide) (Int.natCast_nonneg _) | exact Nat.le_of_ble_eq_true rfl)
    · have hne : f k l[k]! ≠ 0 := by assumption
      rw [e1] at hne
      rw [← hf, failFrom_hit hne, e1]
    · have heq : ¬ f k l[k]! ≠ 0 := by assumption
      rw [e1] at heq
      rw [failFrom_skip heq] at hf
      (refine ⟨k + 1, ?_, by dsimp only; omega, ?_⟩; rotate_left 1; · ((simp only [Fits, fitsV, fitsO, fitsL, ↓upd, ↓lookV, ↓lookO, ↓lookL, Nat.reduceEqDiff, ↓reduceIte, ints, and_true, true_and, Option.some.injEq]); try simp []))
      exact ⟨by omega, hf⟩
  · rw [List.drop_eq_nil_of_le (by omega)] at hf
    rw [← hf]; rfl

theorem failingRule_c (g : FuncId) (caps : List AV) (l : List RRule) (f : Nat → RRule → Int) (h : ∀ (i : Nat) (hi : i < l.length), PCall Try.prog g ([.int .i64 i, ruleA l[i]] ++ caps) (.int .i64 (f i l[i]))) :
    PCall Try.prog 53 [.slice 2 (l.map ruleA), .fn (.func g) [] caps] (.tuple [.int .i64 (failFrom f 0 l).1, .int .i64 (failFrom f 0 l).2]) := by
  intro m
  refine acall_len Try.call53 fun hlen => ?_; (refine acall_intro (E := envC (modeAt [7] []) false []) (envCOk _ _ _) rfl Try.func53 rfl Try.call53 (by kernel_rfl) (by simp [Try.ntmps53]) ?_; simp only [Try.f53];  simp (maxSteps := 4000000) only [↓VP0, ↓VP1, ↓VP2, VQ0, VQ1, VQ2, VQ3, VQ4, VT, ite_self, ite_split, Nat.reduceEqDiff, Nat.reduceAdd, Nat.reduceSub, Nat.reduceMul, Nat.reduceLeDiff, Nat.reduceLT, Nat.reduceBEq, Int.reduceLE, Int.reduceLT, Int.reduceNeg, Int.reduceAdd, Int.reduceSub, Int.reduceToNat, ↓reduceIte, reduceCtorEq])
  simp only [lenOk_cons, lenOk_nil, List.length_map, and_true, maxLen_eq] at hlen
  intro _
  refine aloop (envCOk _ _ _) (fun k : Nat => ⟨[(0, .v (.slice 2 (l.map ruleA))), (1, .v (.fn (.func g) [] caps)), (9, .v (.slice 2 (l.map ruleA))), (10, .v (.int .i64 l.length)), (11, .v (.int .i64 k))], [], [], m⟩)
    (fun k => k ≤ l.length ∧ failFrom f k (l.drop k) = failFrom f 0 l) (fun k => l.length - k) 0 (fun _ => rfl) (by simp) (by (simp only [Fits, fitsV, fitsO, fitsL, ↓upd, ↓lookV, ↓lookO, ↓lookL, Nat.reduceEqDiff, ↓reduceIte, ints, and_true, true_and, Option.some.injEq]); try simp) ?_
  rintro k ⟨hk, hf⟩
  simp (maxSteps := 4000000) only [↓VP0, ↓VP1, ↓VP2, VQ0, VQ1, VQ2, VQ3, VQ4, VT, ite_self, ite_split, Nat.reduceEqDiff, Nat.reduceAdd, Nat.reduceSub, Nat.reduceMul, Nat.reduceLeDiff, Nat.reduceLT, Nat.reduceBEq, Int.reduceLE, Int.reduceLT, Int.reduceNeg, Int.reduceAdd, Int.reduceSub, Int.reduceToNat, ↓reduceIte, reduceCtorEq, ruleA]
  repeat' (first | intro _ | refine And.intro ?_ ?_)
  all_goals try (first | omega | (simp only [List.length_map, List.length_cons, List.length_nil, List.length_append, Nat.zero_add]; omega) | exact Int.natCast_nonneg _ | exact Int.le_trans (by decide) (Int.natCast_nonneg _) | exact Nat.le_of_ble_eq_true rfl)
  · have hlt : k < l.length := by omega
    have e1 : l[k]! = l[k] := getD_any hlt
    rw [List.drop_eq_getElem_cons hlt] at hf
    have hc := h k hlt
    simp only [ruleA, List.cons_append, List.nil_append] at hc
    rw [← e1] at hc
    refine ACall.pure hc ?_
    simp (maxSteps := 4000000) only [↓VP0, ↓VP1, ↓VP2, VQ0, VQ1, VQ2, VQ3, VQ4, VT, ite_self, ite_split, Nat.reduceEqDiff, Nat.reduceAdd, Nat.reduceSub, Nat.reduceMul, Nat.reduceLeDiff, Nat.reduceLT, Nat.reduceBEq, Int.reduceLE, Int.reduceLT, Int.reduceNeg, Int.reduceAdd, Int.reduceSub, Int.reduceToNat, ↓reduceIte, reduceCtorEq]
    repeat' (first | intro _ | refine And.intro ?_ ?_)
    all_goals try (first | omega | (simp only [List.length_map, List.length_cons, List.length_nil, List.length_append, Nat.zero_add]; omega) | exact Int.natCast_nonneg _ | exact Int.le_trans (by decide) (Int.natCast_nonneg _) | exact Nat.le_of_ble_eq_true rfl)
    · have hne : f k l[k]! ≠ 0 := by assumption
      rw [e1] at hne
      rw [← hf, failFrom_hit hne, e1]
    · have heq : ¬ f k l[k]! ≠ 0 := by assumption
      rw [e1] at heq
      rw [failFrom_skip heq] at hf
      (refine ⟨k + 1, ?_, by dsimp only; omega, ?_⟩; rotate_left 1; · ((simp only [Fits, fitsV, fitsO, fitsL, ↓upd, ↓lookV, ↓lookO, ↓lookL, Nat.reduceEqDiff, ↓reduceIte, ints, and_true, true_and, Option.some.injEq]); try simp []))
      exact ⟨by omega, hf⟩
  · rw [List.drop_eq_nil_of_le (by omega)] at hf
    rw [← hf]; rfl
end Go.Proofs.Ytakkdmdkelbnjaa.Abs

/- Contracts: the parts of a check. -/
namespace Go.Proofs.Ytakkdmdkelbnjaa.Abs
set_option linter.unusedSimpArgs false
set_option maxHeartbeats 4000000
set_option maxRecDepth 100000
open Go Go.RowKit Go.Proofs

theorem offOne_c (lo hi n : Int) : PCall Try.prog 46 [.int .i64 lo, .int .i64 hi, .slice 1 [.int .i64 n]] (.bool (offP lo hi n)) := by
  have := off_c lo hi [n]
  simpa [ints] using this

/-- The error of a name. -/
def nameErr (l : List ByteArray) (i : Nat) (s : ByteArray) : Int := if nameB s = true then (if (l.take i).any (fun x => decide (x = s)) = true then 5 else 0) else 6

def copyErr (c : RChest) (w f p : Int) (i : Nat) (x : RCopy) : Int :=
  if offP 1 c.last x.number = true then 7 else if 0 < i ∧ x.number ≤ (c.copies[i - 1]!).number then 2
  else if (offP 0 (w - 1) x.words || offP 0 (f - 1) x.facts || offP 0 (p - 1) x.may) = true then 4 else 0

def ruleErr (c : RChest) (f : Int) (x : RRule) : Int :=
  if (offP 0 (f - 1) x.if_ || offP 0 (c.facts - 1) x.then_) = true then 4 else if x.if_ = 0 then 2 else 0

theorem check1_c (c : RChest) (i : Nat) (s : ByteArray) (hi : i ≤ c.people.length) (hs : s.size ≤ 9223372036854775807) : PCall Try.prog 48 [.int .i64 i, .str s, .eptr (chestL c)] (.int .i64 (nameErr c.people i s)) := by
  intro m
  simp only [chestL, strs]
  (refine acall_intro (E := env fun _ => .imm) (envOk _) rfl Try.func48 rfl Try.call48 (by kernel_rfl) (by simp [Try.ntmps48]) ?_; simp only [Try.f48];  simp (maxSteps := 4000000) only [↓VP0, ↓VP1, ↓VP2, VQ0, VQ1, VQ2, VQ3, VQ4, VT, ite_self, ite_split, Nat.reduceEqDiff, Nat.reduceAdd, Nat.reduceSub, Nat.reduceMul, Nat.reduceLeDiff, Nat.reduceLT, Nat.reduceBEq, Int.reduceLE, Int.reduceLT, Int.reduceNeg, Int.reduceAdd, Int.reduceSub, Int.reduceToNat, ↓reduceIte, reduceCtorEq])
  (refine ACall.pure (name_c s hs) ?_; try simp (maxSteps := 4000000) only [↓VP0, ↓VP1, ↓VP2, VQ0, VQ1, VQ2, VQ3, VQ4, VT, ite_self, ite_split, Nat.reduceEqDiff, Nat.reduceAdd, Nat.reduceSub, Nat.reduceMul, Nat.reduceLeDiff, Nat.reduceLT, Nat.reduceBEq, Int.reduceLE, Int.reduceLT, Int.reduceNeg, Int.reduceAdd, Int.reduceSub, Int.reduceToNat, ↓reduceIte, reduceCtorEq])
  repeat' (first | intro _ | refine And.intro ?_ ?_)
  all_goals try (first | omega | (simp only [List.length_map, List.length_cons, List.length_nil, List.length_append, Nat.zero_add]; omega) | exact Int.natCast_nonneg _ | exact Int.le_trans (by decide) (Int.natCast_nonneg _) | exact Nat.le_of_ble_eq_true rfl)
  · rename_i h
    simp [nameErr, h]
  · rename_i h
    have hc := containsStr_c (c.people.take i) s
    simp only [strs, List.map_take] at hc
    (refine ACall.pure (hc) ?_; try simp (maxSteps := 4000000) only [↓VP0, ↓VP1, ↓VP2, VQ0, VQ1, VQ2, VQ3, VQ4, VT, ite_self, ite_split, Nat.reduceEqDiff, Nat.reduceAdd, Nat.reduceSub, Nat.reduceMul, Nat.reduceLeDiff, Nat.reduceLT, Nat.reduceBEq, Int.reduceLE, Int.reduceLT, Int.reduceNeg, Int.reduceAdd, Int.reduceSub, Int.reduceToNat, ↓reduceIte, reduceCtorEq])
    repeat' (first | intro _ | refine And.intro ?_ ?_)
    all_goals try (first | omega | (simp only [List.length_map, List.length_cons, List.length_nil, List.length_append, Nat.zero_add]; omega) | exact Int.natCast_nonneg _ | exact Int.le_trans (by decide) (Int.natCast_nonneg _) | exact Nat.le_of_ble_eq_true rfl)
    all_goals simp_all [nameErr]

theorem check2_c (c : RChest) (w f p : Int) (i : Nat) (x : RCopy) (hi : i ≤ c.copies.length) (hw : 0 ≤ w ∧ w ≤ 1000) (hf : 0 ≤ f ∧ f ≤ 1000) (hp : 0 ≤ p ∧ p ≤ 1000) (hlen : c.copies.length ≤ 6) :
    PCall Try.prog 52 [.int .i64 i, copyA x, .eptr (chestL c), .eptr [.int .i64 w], .eptr [.int .i64 f], .eptr [.int .i64 p]] (.int .i64 (copyErr c w f p i x)) := by
  intro m
  simp only [chestL, copyA]
  (refine acall_intro (E := env fun _ => .imm) (envOk _) rfl Try.func52 rfl Try.call52 (by kernel_rfl) (by simp [Try.ntmps52]) ?_; simp only [Try.f52];  simp (maxSteps := 4000000) only [↓VP0, ↓VP1, ↓VP2, VQ0, VQ1, VQ2, VQ3, VQ4, VT, ite_self, ite_split, Nat.reduceEqDiff, Nat.reduceAdd, Nat.reduceSub, Nat.reduceMul, Nat.reduceLeDiff, Nat.reduceLT, Nat.reduceBEq, Int.reduceLE, Int.reduceLT, Int.reduceNeg, Int.reduceAdd, Int.reduceSub, Int.reduceToNat, ↓reduceIte, reduceCtorEq])
  repeat' (first | intro _ | refine And.intro ?_ ?_)
  all_goals try (first | omega | (simp only [List.length_map, List.length_cons, List.length_nil, List.length_append, Nat.zero_add]; omega) | exact Int.natCast_nonneg _ | exact Int.le_trans (by decide) (Int.natCast_nonneg _) | exact Nat.le_of_ble_eq_true rfl)
  (refine ACall.pure (offOne_c 1 c.last x.number) ?_; try simp (maxSteps := 4000000) only [↓VP0, ↓VP1, ↓VP2, VQ0, VQ1, VQ2, VQ3, VQ4, VT, ite_self, ite_split, Nat.reduceEqDiff, Nat.reduceAdd, Nat.reduceSub, Nat.reduceMul, Nat.reduceLeDiff, Nat.reduceLT, Nat.reduceBEq, Int.reduceLE, Int.reduceLT, Int.reduceNeg, Int.reduceAdd, Int.reduceSub, Int.reduceToNat, ↓reduceIte, reduceCtorEq])
  repeat' (first | intro _ | refine And.intro ?_ ?_)
  · rename_i h
    simp [copyErr, h]
  · rename_i h
    have hidx : ((i : Int) - 1).toNat = i - 1 := by omega
    (refine adraw (by first | exact envOk _ | exact envCOk _ _ _) mixed [⟨false, false, 0⟩, ⟨false, false, 0⟩, ⟨false, false, 0⟩, ⟨false, false, 0⟩, ⟨false, false, 0⟩, ⟨false, false, 0⟩, ⟨false, false, 0⟩, ⟨false, false, 0⟩, ⟨false, false, 0⟩, ⟨false, false, 0⟩, ⟨false, false, 0⟩, ⟨false, false, 0⟩, ⟨false, false, 0⟩, ⟨false, false, 0⟩, ⟨false, false, 0⟩] (by kernel_rfl) ?_; show vcOpsD _ _ _ (_ :: _) _ _)
    simp (maxSteps := 4000000) only [↓VP0, ↓VP1, ↓VP2, VQ0, VQ1, VQ2, VQ3, VQ4, VT, ite_self, ite_split, Nat.reduceEqDiff, Nat.reduceAdd, Nat.reduceSub, Nat.reduceMul, Nat.reduceLeDiff, Nat.reduceLT, Nat.reduceBEq, Int.reduceLE, Int.reduceLT, Int.reduceNeg, Int.reduceAdd, Int.reduceSub, Int.reduceToNat, ↓reduceIte, reduceCtorEq, copyA, hidx]
    repeat' (first | intro _ | refine And.intro ?_ ?_)
    all_goals try (first | omega | (simp only [List.length_map, List.length_cons, List.length_nil, List.length_append, Nat.zero_add]; omega) | exact Int.natCast_nonneg _ | exact Int.le_trans (by decide) (Int.natCast_nonneg _) | exact Nat.le_of_ble_eq_true rfl)
    · have h3 : 0 < i := by omega
      have h2 : x.number ≤ (c.copies[i - 1]!).number := by assumption
      rw [copyErr, if_neg h, if_pos ⟨h3, h2⟩]
    all_goals have hno : ¬ (0 < i ∧ x.number ≤ (c.copies[i - 1]!).number) := by omega
    all_goals ((refine ACall.pure (offOne_c 0 (w - 1) x.words) ?_; try simp (maxSteps := 4000000) only [↓VP0, ↓VP1, ↓VP2, VQ0, VQ1, VQ2, VQ3, VQ4, VT, ite_self, ite_split, Nat.reduceEqDiff, Nat.reduceAdd, Nat.reduceSub, Nat.reduceMul, Nat.reduceLeDiff, Nat.reduceLT, Nat.reduceBEq, Int.reduceLE, Int.reduceLT, Int.reduceNeg, Int.reduceAdd, Int.reduceSub, Int.reduceToNat, ↓reduceIte, reduceCtorEq]))
    all_goals repeat' (first | intro _ | refine And.intro ?_ ?_)
    all_goals try (first | omega | (simp only [List.length_map, List.length_cons, List.length_nil, List.length_append, Nat.zero_add]; omega) | exact Int.natCast_nonneg _ | exact Int.le_trans (by decide) (Int.natCast_nonneg _) | exact Nat.le_of_ble_eq_true rfl)
    all_goals try ((refine ACall.pure (offOne_c 0 (f - 1) x.facts) ?_; try simp (maxSteps := 4000000) only [↓VP0, ↓VP1, ↓VP2, VQ0, VQ1, VQ2, VQ3, VQ4, VT, ite_self, ite_split, Nat.reduceEqDiff, Nat.reduceAdd, Nat.reduceSub, Nat.reduceMul, Nat.reduceLeDiff, Nat.reduceLT, Nat.reduceBEq, Int.reduceLE, Int.reduceLT, Int.reduceNeg, Int.reduceAdd, Int.reduceSub, Int.reduceToNat, ↓reduceIte, reduceCtorEq]))
    all_goals repeat' (first | intro _ | refine And.intro ?_ ?_)
    all_goals try (first | omega | (simp only [List.length_map, List.length_cons, List.length_nil, List.length_append, Nat.zero_add]; omega) | exact Int.natCast_nonneg _ | exact Int.le_trans (by decide) (Int.natCast_nonneg _) | exact Nat.le_of_ble_eq_true rfl)
    all_goals try ((refine ACall.pure (offOne_c 0 (p - 1) x.may) ?_; try simp (maxSteps := 4000000) only [↓VP0, ↓VP1, ↓VP2, VQ0, VQ1, VQ2, VQ3, VQ4, VT, ite_self, ite_split, Nat.reduceEqDiff, Nat.reduceAdd, Nat.reduceSub, Nat.reduceMul, Nat.reduceLeDiff, Nat.reduceLT, Nat.reduceBEq, Int.reduceLE, Int.reduceLT, Int.reduceNeg, Int.reduceAdd, Int.reduceSub, Int.reduceToNat, ↓reduceIte, reduceCtorEq]))
    all_goals repeat' (first | intro _ | refine And.intro ?_ ?_)
    all_goals try (first | omega | (simp only [List.length_map, List.length_cons, List.length_nil, List.length_append, Nat.zero_add]; omega) | exact Int.natCast_nonneg _ | exact Int.le_trans (by decide) (Int.natCast_nonneg _) | exact Nat.le_of_ble_eq_true rfl)
    all_goals simp_all [copyErr]

theorem check3_c (c : RChest) (f : Int) (i : Nat) (x : RRule) (hf : 0 ≤ f ∧ f ≤ 1000) (hc : 0 ≤ c.facts ∧ c.facts ≤ 1000) :
    PCall Try.prog 54 [.int .i64 i, ruleA x, .eptr [.int .i64 f], .eptr (chestL c)] (.int .i64 (ruleErr c f x)) := by
  intro m
  simp only [chestL, ruleA]
  (refine acall_intro (E := env fun _ => .imm) (envOk _) rfl Try.func54 rfl Try.call54 (by kernel_rfl) (by simp [Try.ntmps54]) ?_; simp only [Try.f54];  simp (maxSteps := 4000000) only [↓VP0, ↓VP1, ↓VP2, VQ0, VQ1, VQ2, VQ3, VQ4, VT, ite_self, ite_split, Nat.reduceEqDiff, Nat.reduceAdd, Nat.reduceSub, Nat.reduceMul, Nat.reduceLeDiff, Nat.reduceLT, Nat.reduceBEq, Int.reduceLE, Int.reduceLT, Int.reduceNeg, Int.reduceAdd, Int.reduceSub, Int.reduceToNat, ↓reduceIte, reduceCtorEq])
  repeat' (first | intro _ | refine And.intro ?_ ?_)
  all_goals try (first | omega | (simp only [List.length_map, List.length_cons, List.length_nil, List.length_append, Nat.zero_add]; omega) | exact Int.natCast_nonneg _ | exact Int.le_trans (by decide) (Int.natCast_nonneg _) | exact Nat.le_of_ble_eq_true rfl)
  (refine ACall.pure (offOne_c 0 (f - 1) x.if_) ?_; try simp (maxSteps := 4000000) only [↓VP0, ↓VP1, ↓VP2, VQ0, VQ1, VQ2, VQ3, VQ4, VT, ite_self, ite_split, Nat.reduceEqDiff, Nat.reduceAdd, Nat.reduceSub, Nat.reduceMul, Nat.reduceLeDiff, Nat.reduceLT, Nat.reduceBEq, Int.reduceLE, Int.reduceLT, Int.reduceNeg, Int.reduceAdd, Int.reduceSub, Int.reduceToNat, ↓reduceIte, reduceCtorEq])
  repeat' (first | intro _ | refine And.intro ?_ ?_)
  all_goals try (first | omega | (simp only [List.length_map, List.length_cons, List.length_nil, List.length_append, Nat.zero_add]; omega) | exact Int.natCast_nonneg _ | exact Int.le_trans (by decide) (Int.natCast_nonneg _) | exact Nat.le_of_ble_eq_true rfl)
  all_goals try ((refine ACall.pure (offOne_c 0 (c.facts - 1) x.then_) ?_; try simp (maxSteps := 4000000) only [↓VP0, ↓VP1, ↓VP2, VQ0, VQ1, VQ2, VQ3, VQ4, VT, ite_self, ite_split, Nat.reduceEqDiff, Nat.reduceAdd, Nat.reduceSub, Nat.reduceMul, Nat.reduceLeDiff, Nat.reduceLT, Nat.reduceBEq, Int.reduceLE, Int.reduceLT, Int.reduceNeg, Int.reduceAdd, Int.reduceSub, Int.reduceToNat, ↓reduceIte, reduceCtorEq]))
  repeat' (first | intro _ | refine And.intro ?_ ?_)
  all_goals try (first | omega | (simp only [List.length_map, List.length_cons, List.length_nil, List.length_append, Nat.zero_add]; omega) | exact Int.natCast_nonneg _ | exact Int.le_trans (by decide) (Int.natCast_nonneg _) | exact Nat.le_of_ble_eq_true rfl)
  all_goals simp_all [ruleErr]

theorem fresh_c (s : ByteArray) (l : List ByteArray) (hs : s.size ≤ 9223372036854775807) : PCall Try.prog 56 [.str s, strs l] (.int .i64 (if nameB s = true then (if l.any (fun x => decide (x = s)) = true then 5 else 0) else 6)) := by
  intro m
  have hw := where_c l s
  simp only [strs] at hw ⊢
  (refine acall_intro (E := env fun _ => .imm) (envOk _) rfl Try.func56 rfl Try.call56 (by kernel_rfl) (by simp [Try.ntmps56]) ?_; simp only [Try.f56];  simp (maxSteps := 4000000) only [↓VP0, ↓VP1, ↓VP2, VQ0, VQ1, VQ2, VQ3, VQ4, VT, ite_self, ite_split, Nat.reduceEqDiff, Nat.reduceAdd, Nat.reduceSub, Nat.reduceMul, Nat.reduceLeDiff, Nat.reduceLT, Nat.reduceBEq, Int.reduceLE, Int.reduceLT, Int.reduceNeg, Int.reduceAdd, Int.reduceSub, Int.reduceToNat, ↓reduceIte, reduceCtorEq])
  (refine ACall.pure (hw) ?_; try simp (maxSteps := 4000000) only [↓VP0, ↓VP1, ↓VP2, VQ0, VQ1, VQ2, VQ3, VQ4, VT, ite_self, ite_split, Nat.reduceEqDiff, Nat.reduceAdd, Nat.reduceSub, Nat.reduceMul, Nat.reduceLeDiff, Nat.reduceLT, Nat.reduceBEq, Int.reduceLE, Int.reduceLT, Int.reduceNeg, Int.reduceAdd, Int.reduceSub, Int.reduceToNat, ↓reduceIte, reduceCtorEq])
  have hany := idxL_any (fun x => decide (x = s)) l
  generalize idxL (fun x => decide (x = s)) l = j at *
  generalize l.any (fun x => decide (x = s)) = b at *
  repeat' (first | intro _ | refine And.intro ?_ ?_)
  all_goals try (first | omega | (simp only [List.length_map, List.length_cons, List.length_nil, List.length_append, Nat.zero_add]; omega) | exact Int.natCast_nonneg _ | exact Int.le_trans (by decide) (Int.natCast_nonneg _) | exact Nat.le_of_ble_eq_true rfl)
  all_goals ((refine ACall.pure (refname_c s hs) ?_; try simp (maxSteps := 4000000) only [↓VP0, ↓VP1, ↓VP2, VQ0, VQ1, VQ2, VQ3, VQ4, VT, ite_self, ite_split, Nat.reduceEqDiff, Nat.reduceAdd, Nat.reduceSub, Nat.reduceMul, Nat.reduceLeDiff, Nat.reduceLT, Nat.reduceBEq, Int.reduceLE, Int.reduceLT, Int.reduceNeg, Int.reduceAdd, Int.reduceSub, Int.reduceToNat, ↓reduceIte, reduceCtorEq]))
  all_goals repeat' (first | intro _ | refine And.intro ?_ ?_)
  all_goals subst hany
  all_goals simp_all

theorem refbits_c (n : Int) (k : Nat) (hk : k ≤ 60) : PCall Try.prog 57 [.int .i64 n, .int .i64 k] (.bool (!offP 0 (((2 ^ k : Nat) : Int) - 1) n)) := by
  intro m
  (refine acall_intro (E := env fun _ => .imm) (envOk _) rfl Try.func57 rfl Try.call57 (by kernel_rfl) (by simp [Try.ntmps57]) ?_; simp only [Try.f57];  simp (maxSteps := 4000000) only [↓VP0, ↓VP1, ↓VP2, VQ0, VQ1, VQ2, VQ3, VQ4, VT, ite_self, ite_split, Nat.reduceEqDiff, Nat.reduceAdd, Nat.reduceSub, Nat.reduceMul, Nat.reduceLeDiff, Nat.reduceLT, Nat.reduceBEq, Int.reduceLE, Int.reduceLT, Int.reduceNeg, Int.reduceAdd, Int.reduceSub, Int.reduceToNat, ↓reduceIte, reduceCtorEq])
  (refine ACall.pure (all_c k hk) ?_; try simp (maxSteps := 4000000) only [↓VP0, ↓VP1, ↓VP2, VQ0, VQ1, VQ2, VQ3, VQ4, VT, ite_self, ite_split, Nat.reduceEqDiff, Nat.reduceAdd, Nat.reduceSub, Nat.reduceMul, Nat.reduceLeDiff, Nat.reduceLT, Nat.reduceBEq, Int.reduceLE, Int.reduceLT, Int.reduceNeg, Int.reduceAdd, Int.reduceSub, Int.reduceToNat, ↓reduceIte, reduceCtorEq])
  (refine ACall.pure (in_c _ _ _) ?_; try simp (maxSteps := 4000000) only [↓VP0, ↓VP1, ↓VP2, VQ0, VQ1, VQ2, VQ3, VQ4, VT, ite_self, ite_split, Nat.reduceEqDiff, Nat.reduceAdd, Nat.reduceSub, Nat.reduceMul, Nat.reduceLeDiff, Nat.reduceLT, Nat.reduceBEq, Int.reduceLE, Int.reduceLT, Int.reduceNeg, Int.reduceAdd, Int.reduceSub, Int.reduceToNat, ↓reduceIte, reduceCtorEq])
  repeat' (first | intro _ | refine And.intro ?_ ?_)
  have := Nat.pow_pos (n := k) (show 0 < 2 by decide)
  congr 1
  rw [Bool.eq_iff_iff]
  simp only [offP, decide_eq_true_eq, Bool.not_eq_true', decide_eq_false_iff_not]
  omega
end Go.Proofs.Ytakkdmdkelbnjaa.Abs

/- Contracts: Check. -/
namespace Go.Proofs.Ytakkdmdkelbnjaa.Abs
set_option linter.unusedSimpArgs false
set_option maxHeartbeats 4000000
set_option maxRecDepth 100000
open Go Go.RowKit Go.Proofs

/-- Two to a number. -/
def pw (n : Int) : Int := ((2 ^ n.toNat : Nat) : Int)

def namesR (c : RChest) : Int × Int := failFrom (nameErr c.people) 0 c.people
def copiesR (c : RChest) : Int × Int := failFrom (copyErr c (pw c.words) (pw c.facts) (pw c.people.length)) 0 c.copies
def rulesR (c : RChest) : Int × Int := failFrom (fun _ => ruleErr c (pw c.facts)) 0 c.rules

/-- The part, the index and the error of a chest. -/
def checkR (c : RChest) : Int × Int × Int :=
  if (offP 1 5 c.words || offP 1 6 c.facts || offP 0 30 c.last) = true then (1, 0, 7)
  else if 3 < c.people.length then (2, 0, 3)
  else if (namesR c).2 ≠ 0 then (2, (namesR c).1, (namesR c).2)
  else if 6 < c.copies.length then (3, 0, 3)
  else if (copiesR c).2 ≠ 0 then (3, (copiesR c).1, (copiesR c).2)
  else if 4 < c.rules.length then (4, 0, 3)
  else if (rulesR c).2 ≠ 0 then (4, (rulesR c).1, (rulesR c).2)
  else (0, 0, 0)

theorem pw_le {n : Int} {k : Nat} (h : n ≤ k) : pw n ≤ ((2 ^ k : Nat) : Int) := by
  unfold pw
  exact Int.ofNat_le.2 (Nat.pow_le_pow_right (by decide) (by omega))
theorem pw_pos (n : Int) : 0 < pw n := Int.ofNat_lt.2 (Nat.pow_pos (by decide))

def namesFit (c : RChest) : Prop := ∀ s ∈ c.people, s.size ≤ 9223372036854775807

theorem check_first (c : RChest) (h0 : (offP 1 5 c.words || offP 1 6 c.facts || offP 0 30 c.last) = true) : PCall Try.prog 17 [chestA c] (.tuple [.int .i64 1, .int .i64 0, .int .i64 7]) := by
  have hc1 := offOne_c 1 5 c.words
  have hc2 := offOne_c 1 6 c.facts
  have hc3 := offOne_c 0 30 c.last
  intro m
  simp only [chestA, chestL, strs]
  cases h1 : offP 1 5 c.words
  · cases h2 : offP 1 6 c.facts
    · cases h3 : offP 0 30 c.last
      · simp [h1, h2, h3] at h0
      · rw [h1] at hc1; rw [h2] at hc2; rw [h3] at hc3
        (refine acall_intro (E := envC (modeAt [5, 6, 7] []) false []) (envCOk _ _ _) rfl Try.func17 rfl Try.call17 (by kernel_rfl) (by simp [Try.ntmps17]) ?_; simp only [Try.f17];  simp (maxSteps := 4000000) only [↓VP0, ↓VP1, ↓VP2, VQ0, VQ1, VQ2, VQ3, VQ4, VT, ite_self, ite_split, Nat.reduceEqDiff, Nat.reduceAdd, Nat.reduceSub, Nat.reduceMul, Nat.reduceLeDiff, Nat.reduceLT, Nat.reduceBEq, Int.reduceLE, Int.reduceLT, Int.reduceNeg, Int.reduceAdd, Int.reduceSub, Int.reduceToNat, ↓reduceIte, reduceCtorEq])
        (refine ACall.pure (hc1) ?_; try simp (maxSteps := 4000000) only [↓VP0, ↓VP1, ↓VP2, VQ0, VQ1, VQ2, VQ3, VQ4, VT, ite_self, ite_split, Nat.reduceEqDiff, Nat.reduceAdd, Nat.reduceSub, Nat.reduceMul, Nat.reduceLeDiff, Nat.reduceLT, Nat.reduceBEq, Int.reduceLE, Int.reduceLT, Int.reduceNeg, Int.reduceAdd, Int.reduceSub, Int.reduceToNat, ↓reduceIte, reduceCtorEq])
        (refine ACall.pure (hc2) ?_; try simp (maxSteps := 4000000) only [↓VP0, ↓VP1, ↓VP2, VQ0, VQ1, VQ2, VQ3, VQ4, VT, ite_self, ite_split, Nat.reduceEqDiff, Nat.reduceAdd, Nat.reduceSub, Nat.reduceMul, Nat.reduceLeDiff, Nat.reduceLT, Nat.reduceBEq, Int.reduceLE, Int.reduceLT, Int.reduceNeg, Int.reduceAdd, Int.reduceSub, Int.reduceToNat, ↓reduceIte, reduceCtorEq])
        (refine ACall.pure (hc3) ?_; try simp (maxSteps := 4000000) only [↓VP0, ↓VP1, ↓VP2, VQ0, VQ1, VQ2, VQ3, VQ4, VT, ite_self, ite_split, Nat.reduceEqDiff, Nat.reduceAdd, Nat.reduceSub, Nat.reduceMul, Nat.reduceLeDiff, Nat.reduceLT, Nat.reduceBEq, Int.reduceLE, Int.reduceLT, Int.reduceNeg, Int.reduceAdd, Int.reduceSub, Int.reduceToNat, ↓reduceIte, reduceCtorEq])
    · rw [h1] at hc1; rw [h2] at hc2
      (refine acall_intro (E := envC (modeAt [5, 6, 7] []) false []) (envCOk _ _ _) rfl Try.func17 rfl Try.call17 (by kernel_rfl) (by simp [Try.ntmps17]) ?_; simp only [Try.f17];  simp (maxSteps := 4000000) only [↓VP0, ↓VP1, ↓VP2, VQ0, VQ1, VQ2, VQ3, VQ4, VT, ite_self, ite_split, Nat.reduceEqDiff, Nat.reduceAdd, Nat.reduceSub, Nat.reduceMul, Nat.reduceLeDiff, Nat.reduceLT, Nat.reduceBEq, Int.reduceLE, Int.reduceLT, Int.reduceNeg, Int.reduceAdd, Int.reduceSub, Int.reduceToNat, ↓reduceIte, reduceCtorEq])
      (refine ACall.pure (hc1) ?_; try simp (maxSteps := 4000000) only [↓VP0, ↓VP1, ↓VP2, VQ0, VQ1, VQ2, VQ3, VQ4, VT, ite_self, ite_split, Nat.reduceEqDiff, Nat.reduceAdd, Nat.reduceSub, Nat.reduceMul, Nat.reduceLeDiff, Nat.reduceLT, Nat.reduceBEq, Int.reduceLE, Int.reduceLT, Int.reduceNeg, Int.reduceAdd, Int.reduceSub, Int.reduceToNat, ↓reduceIte, reduceCtorEq])
      (refine ACall.pure (hc2) ?_; try simp (maxSteps := 4000000) only [↓VP0, ↓VP1, ↓VP2, VQ0, VQ1, VQ2, VQ3, VQ4, VT, ite_self, ite_split, Nat.reduceEqDiff, Nat.reduceAdd, Nat.reduceSub, Nat.reduceMul, Nat.reduceLeDiff, Nat.reduceLT, Nat.reduceBEq, Int.reduceLE, Int.reduceLT, Int.reduceNeg, Int.reduceAdd, Int.reduceSub, Int.reduceToNat, ↓reduceIte, reduceCtorEq])
  · rw [h1] at hc1
    (refine acall_intro (E := envC (modeAt [5, 6, 7] []) false []) (envCOk _ _ _) rfl Try.func17 rfl Try.call17 (by kernel_rfl) (by simp [Try.ntmps17]) ?_; simp only [Try.f17];  simp (maxSteps := 4000000) only [↓VP0, ↓VP1, ↓VP2, VQ0, VQ1, VQ2, VQ3, VQ4, VT, ite_self, ite_split, Nat.reduceEqDiff, Nat.reduceAdd, Nat.reduceSub, Nat.reduceMul, Nat.reduceLeDiff, Nat.reduceLT, Nat.reduceBEq, Int.reduceLE, Int.reduceLT, Int.reduceNeg, Int.reduceAdd, Int.reduceSub, Int.reduceToNat, ↓reduceIte, reduceCtorEq])
    (refine ACall.pure (hc1) ?_; try simp (maxSteps := 4000000) only [↓VP0, ↓VP1, ↓VP2, VQ0, VQ1, VQ2, VQ3, VQ4, VT, ite_self, ite_split, Nat.reduceEqDiff, Nat.reduceAdd, Nat.reduceSub, Nat.reduceMul, Nat.reduceLeDiff, Nat.reduceLT, Nat.reduceBEq, Int.reduceLE, Int.reduceLT, Int.reduceNeg, Int.reduceAdd, Int.reduceSub, Int.reduceToNat, ↓reduceIte, reduceCtorEq])

theorem copies_fail (c : RChest) (b1 : 1 ≤ c.words ∧ c.words ≤ 5) (b2 : 1 ≤ c.facts ∧ c.facts ≤ 6) (q1 : ¬ 3 < c.people.length) (q2 : ¬ 6 < c.copies.length) :
    PCall Try.prog 51 [.slice 4 (c.copies.map copyA), .fn (.func 52) [] [.eptr (chestL c), .eptr [.int .i64 (pw c.words)], .eptr [.int .i64 (pw c.facts)], .eptr [.int .i64 (pw c.people.length)]]] (.tuple [.int .i64 (copiesR c).1, .int .i64 (copiesR c).2]) := by
  have p1 := pw_le (n := c.words) (k := 5) (by omega)
  have p2 := pw_le (n := c.facts) (k := 6) (by omega)
  have p3 := pw_le (n := c.people.length) (k := 3) (by omega)
  have p4 := pw_pos c.words
  have p5 := pw_pos c.facts
  have p6 := pw_pos c.people.length
  exact failingCopy_c 52 _ c.copies (copyErr c (pw c.words) (pw c.facts) (pw c.people.length)) fun i hi => check2_c c _ _ _ i c.copies[i] (by omega) (by omega) (by omega) (by omega) (by omega)

theorem check_rest (c : RChest) (hs : namesFit c) (h0 : ¬ (offP 1 5 c.words || offP 1 6 c.facts || offP 0 30 c.last) = true) : PCall Try.prog 17 [chestA c] (.tuple [.int .i64 (checkR c).1, .int .i64 (checkR c).2.1, .int .i64 (checkR c).2.2]) := by
  have h1 : offP 1 5 c.words = false := by revert h0; cases offP 1 5 c.words <;> simp
  have h2 : offP 1 6 c.facts = false := by revert h0; cases offP 1 6 c.facts <;> simp
  have h3 : offP 0 30 c.last = false := by revert h0; cases offP 0 30 c.last <;> simp
  have hc1 := offOne_c 1 5 c.words
  have hc2 := offOne_c 1 6 c.facts
  have hc3 := offOne_c 0 30 c.last
  rw [h1] at hc1; rw [h2] at hc2; rw [h3] at hc3
  have b1 : 1 ≤ c.words ∧ c.words ≤ 5 := by simp [offP] at h1; omega
  have b2 : 1 ≤ c.facts ∧ c.facts ≤ 6 := by simp [offP] at h2; omega
  intro m
  have hf1 := failingStr_c 48 [.eptr (chestL c)] c.people (nameErr c.people) fun i hi => check1_c c i c.people[i] (by omega) (hs _ (List.getElem_mem hi))
  have hf2 := copies_fail c b1 b2
  have hf3 := failingRule_c 54 [.eptr [.int .i64 (pw c.facts)], .eptr (chestL c)] c.rules (fun _ => ruleErr c (pw c.facts)) fun i hi => check3_c c _ i c.rules[i] (by have := pw_le (n := c.facts) (k := 6) (by omega); have := pw_pos c.facts; omega) (by omega)
  simp only [chestL, strs] at hf1 hf2 hf3
  simp only [chestA, chestL, strs]
  (refine acall_intro (E := envC (modeAt [5, 6, 7] []) false []) (envCOk _ _ _) rfl Try.func17 rfl Try.call17 (by kernel_rfl) (by simp [Try.ntmps17]) ?_; simp only [Try.f17];  simp (maxSteps := 4000000) only [↓VP0, ↓VP1, ↓VP2, VQ0, VQ1, VQ2, VQ3, VQ4, VT, ite_self, ite_split, Nat.reduceEqDiff, Nat.reduceAdd, Nat.reduceSub, Nat.reduceMul, Nat.reduceLeDiff, Nat.reduceLT, Nat.reduceBEq, Int.reduceLE, Int.reduceLT, Int.reduceNeg, Int.reduceAdd, Int.reduceSub, Int.reduceToNat, ↓reduceIte, reduceCtorEq])
  (refine ACall.pure (hc1) ?_; try simp (maxSteps := 4000000) only [↓VP0, ↓VP1, ↓VP2, VQ0, VQ1, VQ2, VQ3, VQ4, VT, ite_self, ite_split, Nat.reduceEqDiff, Nat.reduceAdd, Nat.reduceSub, Nat.reduceMul, Nat.reduceLeDiff, Nat.reduceLT, Nat.reduceBEq, Int.reduceLE, Int.reduceLT, Int.reduceNeg, Int.reduceAdd, Int.reduceSub, Int.reduceToNat, ↓reduceIte, reduceCtorEq])
  (refine ACall.pure (hc2) ?_; try simp (maxSteps := 4000000) only [↓VP0, ↓VP1, ↓VP2, VQ0, VQ1, VQ2, VQ3, VQ4, VT, ite_self, ite_split, Nat.reduceEqDiff, Nat.reduceAdd, Nat.reduceSub, Nat.reduceMul, Nat.reduceLeDiff, Nat.reduceLT, Nat.reduceBEq, Int.reduceLE, Int.reduceLT, Int.reduceNeg, Int.reduceAdd, Int.reduceSub, Int.reduceToNat, ↓reduceIte, reduceCtorEq])
  (refine ACall.pure (hc3) ?_; try simp (maxSteps := 4000000) only [↓VP0, ↓VP1, ↓VP2, VQ0, VQ1, VQ2, VQ3, VQ4, VT, ite_self, ite_split, Nat.reduceEqDiff, Nat.reduceAdd, Nat.reduceSub, Nat.reduceMul, Nat.reduceLeDiff, Nat.reduceLT, Nat.reduceBEq, Int.reduceLE, Int.reduceLT, Int.reduceNeg, Int.reduceAdd, Int.reduceSub, Int.reduceToNat, ↓reduceIte, reduceCtorEq])
  repeat' (first | intro _ | refine And.intro ?_ ?_)
  · have hR : checkR c = (2, 0, 3) := by rw [checkR, if_neg h0, if_pos (by omega)]
    rw [hR]
  have h4 : ¬ 3 < c.people.length := by omega
  (refine ACall.pure (hf1) ?_; try simp (maxSteps := 4000000) only [↓VP0, ↓VP1, ↓VP2, VQ0, VQ1, VQ2, VQ3, VQ4, VT, ite_self, ite_split, Nat.reduceEqDiff, Nat.reduceAdd, Nat.reduceSub, Nat.reduceMul, Nat.reduceLeDiff, Nat.reduceLT, Nat.reduceBEq, Int.reduceLE, Int.reduceLT, Int.reduceNeg, Int.reduceAdd, Int.reduceSub, Int.reduceToNat, ↓reduceIte, reduceCtorEq])
  repeat' (first | intro _ | refine And.intro ?_ ?_)
  · have h5 : (namesR c).2 ≠ 0 := by assumption
    have hR : checkR c = (2, (namesR c).1, (namesR c).2) := by rw [checkR, if_neg h0, if_neg h4, if_pos h5]
    rw [hR]; rfl
  · have h5 : ¬ (namesR c).2 ≠ 0 := by assumption
    have hR : checkR c = (3, 0, 3) := by rw [checkR, if_neg h0, if_neg h4, if_neg h5, if_pos (by omega)]
    rw [hR]
  have h5 : ¬ (namesR c).2 ≠ 0 := by assumption
  have h6 : ¬ 6 < c.copies.length := by omega
  have hp : c.people.length ≤ 3 := by omega
  have ew : ((2 ^ c.words.toNat : Nat) : Int) = pw c.words := rfl
  have ef : ((2 ^ c.facts.toNat : Nat) : Int) = pw c.facts := rfl
  have ep : ((2 ^ c.people.length : Nat) : Int) = pw c.people.length := rfl
  have p1 := pw_le (n := c.words) (k := 5) (by omega)
  have p2 := pw_le (n := c.facts) (k := 6) (by omega)
  have p3 := pw_le (n := c.people.length) (k := 3) (by omega)
  have p4 := pw_pos c.words
  have p5 := pw_pos c.facts
  have p6 := pw_pos c.people.length
  refine adraw (envCOk _ _ _) mixed [⟨true, false, 0⟩, ⟨true, false, 0⟩, ⟨true, false, 0⟩, ⟨true, false, 0⟩, ⟨true, false, 0⟩, ⟨true, false, 0⟩, ⟨true, false, 0⟩, ⟨true, false, 0⟩, ⟨true, false, 0⟩, ⟨true, false, 0⟩, ⟨true, false, 0⟩, ⟨true, false, 0⟩, ⟨true, false, 0⟩, ⟨false, false, 0⟩, ⟨false, false, 0⟩, ⟨false, false, 0⟩] (by kernel_rfl) ?_
  simp (maxSteps := 4000000) only [↓VP0, ↓VP1, ↓VP2, VQ0, VQ1, VQ2, VQ3, VQ4, VT, ite_self, ite_split, Nat.reduceEqDiff, Nat.reduceAdd, Nat.reduceSub, Nat.reduceMul, Nat.reduceLeDiff, Nat.reduceLT, Nat.reduceBEq, Int.reduceLE, Int.reduceLT, Int.reduceNeg, Int.reduceAdd, Int.reduceSub, Int.reduceToNat, ↓reduceIte, reduceCtorEq, ew, ef, ep]
  repeat' (first | intro _ | refine And.intro ?_ ?_)
  all_goals try (first | omega | (simp only [List.length_map, List.length_cons, List.length_nil, List.length_append, Nat.zero_add]; omega) | exact Int.natCast_nonneg _ | exact Int.le_trans (by decide) (Int.natCast_nonneg _) | exact Nat.le_of_ble_eq_true rfl)
  have hf2' := hf2 h4 h6
  (refine ACall.pure (hf2') ?_; try simp (maxSteps := 4000000) only [↓VP0, ↓VP1, ↓VP2, VQ0, VQ1, VQ2, VQ3, VQ4, VT, ite_self, ite_split, Nat.reduceEqDiff, Nat.reduceAdd, Nat.reduceSub, Nat.reduceMul, Nat.reduceLeDiff, Nat.reduceLT, Nat.reduceBEq, Int.reduceLE, Int.reduceLT, Int.reduceNeg, Int.reduceAdd, Int.reduceSub, Int.reduceToNat, ↓reduceIte, reduceCtorEq])
  repeat' (first | intro _ | refine And.intro ?_ ?_)
  · have h7 : (copiesR c).2 ≠ 0 := by assumption
    have hR : checkR c = (3, (copiesR c).1, (copiesR c).2) := by rw [checkR, if_neg h0, if_neg h4, if_neg h5, if_neg h6, if_pos h7]
    rw [hR]
  · have h7 : ¬ (copiesR c).2 ≠ 0 := by assumption
    have hR : checkR c = (4, 0, 3) := by rw [checkR, if_neg h0, if_neg h4, if_neg h5, if_neg h6, if_neg h7, if_pos (by omega)]
    rw [hR]
  have h7 : ¬ (copiesR c).2 ≠ 0 := by assumption
  have h8 : ¬ 4 < c.rules.length := by omega
  (refine ACall.pure (hf3) ?_; try simp (maxSteps := 4000000) only [↓VP0, ↓VP1, ↓VP2, VQ0, VQ1, VQ2, VQ3, VQ4, VT, ite_self, ite_split, Nat.reduceEqDiff, Nat.reduceAdd, Nat.reduceSub, Nat.reduceMul, Nat.reduceLeDiff, Nat.reduceLT, Nat.reduceBEq, Int.reduceLE, Int.reduceLT, Int.reduceNeg, Int.reduceAdd, Int.reduceSub, Int.reduceToNat, ↓reduceIte, reduceCtorEq])
  repeat' (first | intro _ | refine And.intro ?_ ?_)
  · have h9 : (rulesR c).2 ≠ 0 := by assumption
    have hR : checkR c = (4, (rulesR c).1, (rulesR c).2) := by rw [checkR, if_neg h0, if_neg h4, if_neg h5, if_neg h6, if_neg h7, if_neg h8, if_pos h9]
    rw [hR]; rfl
  · have h9 : ¬ (rulesR c).2 ≠ 0 := by assumption
    have hR : checkR c = (0, 0, 0) := by rw [checkR, if_neg h0, if_neg h4, if_neg h5, if_neg h6, if_neg h7, if_neg h8, if_neg h9]
    rw [hR]

theorem check_c (c : RChest) (hs : namesFit c) : PCall Try.prog 17 [chestA c] (.tuple [.int .i64 (checkR c).1, .int .i64 (checkR c).2.1, .int .i64 (checkR c).2.2]) := by
  by_cases h0 : (offP 1 5 c.words || offP 1 6 c.facts || offP 0 30 c.last) = true
  · have hR : checkR c = (1, 0, 7) := by rw [checkR, if_pos h0]
    rw [hR]; exact check_first c h0
  · exact check_rest c hs h0
end Go.Proofs.Ytakkdmdkelbnjaa.Abs

/- Contracts: the reference's Check. -/
namespace Go.Proofs.Ytakkdmdkelbnjaa.Abs
set_option linter.unusedSimpArgs false
set_option maxHeartbeats 4000000
set_option maxRecDepth 100000
open Go Go.RowKit Go.Proofs

theorem refcheck_first (c : RChest) (h0 : (offP 1 5 c.words || offP 1 6 c.facts || offP 0 30 c.last) = true) : PCall Try.prog 18 [chestA c] (.tuple [.int .i64 1, .int .i64 0, .int .i64 7]) := by
  have hc1 := in_c c.words 1 5
  have hc2 := in_c c.facts 1 6
  have hc3 := in_c c.last 0 30
  have e1 : decide (1 ≤ c.words ∧ c.words ≤ 5) = !offP 1 5 c.words := by rw [Bool.eq_iff_iff]; simp [offP]
  have e2 : decide (1 ≤ c.facts ∧ c.facts ≤ 6) = !offP 1 6 c.facts := by rw [Bool.eq_iff_iff]; simp [offP]
  have e3 : decide (0 ≤ c.last ∧ c.last ≤ 30) = !offP 0 30 c.last := by rw [Bool.eq_iff_iff]; simp [offP]
  rw [e1] at hc1; rw [e2] at hc2; rw [e3] at hc3
  intro m
  simp only [chestA, chestL, strs]
  cases h1 : offP 1 5 c.words
  · cases h2 : offP 1 6 c.facts
    · cases h3 : offP 0 30 c.last
      · simp [h1, h2, h3] at h0
      · rw [h1] at hc1; rw [h2] at hc2; rw [h3] at hc3
        (refine acall_intro (E := envC (modeAt [8, 10] []) false []) (envCOk _ _ _) rfl Try.func18 rfl Try.call18 (by kernel_rfl) (by simp [Try.ntmps18]) ?_; simp only [Try.f18];  simp (maxSteps := 4000000) only [↓VP0, ↓VP1, ↓VP2, VQ0, VQ1, VQ2, VQ3, VQ4, VT, ite_self, ite_split, Nat.reduceEqDiff, Nat.reduceAdd, Nat.reduceSub, Nat.reduceMul, Nat.reduceLeDiff, Nat.reduceLT, Nat.reduceBEq, Int.reduceLE, Int.reduceLT, Int.reduceNeg, Int.reduceAdd, Int.reduceSub, Int.reduceToNat, ↓reduceIte, reduceCtorEq])
        (refine ACall.pure (hc1) ?_; try simp (maxSteps := 4000000) only [↓VP0, ↓VP1, ↓VP2, VQ0, VQ1, VQ2, VQ3, VQ4, VT, ite_self, ite_split, Nat.reduceEqDiff, Nat.reduceAdd, Nat.reduceSub, Nat.reduceMul, Nat.reduceLeDiff, Nat.reduceLT, Nat.reduceBEq, Int.reduceLE, Int.reduceLT, Int.reduceNeg, Int.reduceAdd, Int.reduceSub, Int.reduceToNat, ↓reduceIte, reduceCtorEq])
        (refine ACall.pure (hc2) ?_; try simp (maxSteps := 4000000) only [↓VP0, ↓VP1, ↓VP2, VQ0, VQ1, VQ2, VQ3, VQ4, VT, ite_self, ite_split, Nat.reduceEqDiff, Nat.reduceAdd, Nat.reduceSub, Nat.reduceMul, Nat.reduceLeDiff, Nat.reduceLT, Nat.reduceBEq, Int.reduceLE, Int.reduceLT, Int.reduceNeg, Int.reduceAdd, Int.reduceSub, Int.reduceToNat, ↓reduceIte, reduceCtorEq])
        (refine ACall.pure (hc3) ?_; try simp (maxSteps := 4000000) only [↓VP0, ↓VP1, ↓VP2, VQ0, VQ1, VQ2, VQ3, VQ4, VT, ite_self, ite_split, Nat.reduceEqDiff, Nat.reduceAdd, Nat.reduceSub, Nat.reduceMul, Nat.reduceLeDiff, Nat.reduceLT, Nat.reduceBEq, Int.reduceLE, Int.reduceLT, Int.reduceNeg, Int.reduceAdd, Int.reduceSub, Int.reduceToNat, ↓reduceIte, reduceCtorEq])
    · rw [h1] at hc1; rw [h2] at hc2
      (refine acall_intro (E := envC (modeAt [8, 10] []) false []) (envCOk _ _ _) rfl Try.func18 rfl Try.call18 (by kernel_rfl) (by simp [Try.ntmps18]) ?_; simp only [Try.f18];  simp (maxSteps := 4000000) only [↓VP0, ↓VP1, ↓VP2, VQ0, VQ1, VQ2, VQ3, VQ4, VT, ite_self, ite_split, Nat.reduceEqDiff, Nat.reduceAdd, Nat.reduceSub, Nat.reduceMul, Nat.reduceLeDiff, Nat.reduceLT, Nat.reduceBEq, Int.reduceLE, Int.reduceLT, Int.reduceNeg, Int.reduceAdd, Int.reduceSub, Int.reduceToNat, ↓reduceIte, reduceCtorEq])
      (refine ACall.pure (hc1) ?_; try simp (maxSteps := 4000000) only [↓VP0, ↓VP1, ↓VP2, VQ0, VQ1, VQ2, VQ3, VQ4, VT, ite_self, ite_split, Nat.reduceEqDiff, Nat.reduceAdd, Nat.reduceSub, Nat.reduceMul, Nat.reduceLeDiff, Nat.reduceLT, Nat.reduceBEq, Int.reduceLE, Int.reduceLT, Int.reduceNeg, Int.reduceAdd, Int.reduceSub, Int.reduceToNat, ↓reduceIte, reduceCtorEq])
      (refine ACall.pure (hc2) ?_; try simp (maxSteps := 4000000) only [↓VP0, ↓VP1, ↓VP2, VQ0, VQ1, VQ2, VQ3, VQ4, VT, ite_self, ite_split, Nat.reduceEqDiff, Nat.reduceAdd, Nat.reduceSub, Nat.reduceMul, Nat.reduceLeDiff, Nat.reduceLT, Nat.reduceBEq, Int.reduceLE, Int.reduceLT, Int.reduceNeg, Int.reduceAdd, Int.reduceSub, Int.reduceToNat, ↓reduceIte, reduceCtorEq])
  · rw [h1] at hc1
    (refine acall_intro (E := envC (modeAt [8, 10] []) false []) (envCOk _ _ _) rfl Try.func18 rfl Try.call18 (by kernel_rfl) (by simp [Try.ntmps18]) ?_; simp only [Try.f18];  simp (maxSteps := 4000000) only [↓VP0, ↓VP1, ↓VP2, VQ0, VQ1, VQ2, VQ3, VQ4, VT, ite_self, ite_split, Nat.reduceEqDiff, Nat.reduceAdd, Nat.reduceSub, Nat.reduceMul, Nat.reduceLeDiff, Nat.reduceLT, Nat.reduceBEq, Int.reduceLE, Int.reduceLT, Int.reduceNeg, Int.reduceAdd, Int.reduceSub, Int.reduceToNat, ↓reduceIte, reduceCtorEq])
    (refine ACall.pure (hc1) ?_; try simp (maxSteps := 4000000) only [↓VP0, ↓VP1, ↓VP2, VQ0, VQ1, VQ2, VQ3, VQ4, VT, ite_self, ite_split, Nat.reduceEqDiff, Nat.reduceAdd, Nat.reduceSub, Nat.reduceMul, Nat.reduceLeDiff, Nat.reduceLT, Nat.reduceBEq, Int.reduceLE, Int.reduceLT, Int.reduceNeg, Int.reduceAdd, Int.reduceSub, Int.reduceToNat, ↓reduceIte, reduceCtorEq])

theorem copyErr_four {c : RChest} {w f p : Int} {j : Nat} {x : RCopy} (g1 : ¬ offP 1 c.last x.number = true) (g2 : ¬ (0 < j ∧ x.number ≤ (c.copies[j - 1]!).number))
    (h : offP 0 (w - 1) x.words = true ∨ offP 0 (f - 1) x.facts = true ∨ offP 0 (p - 1) x.may = true) : copyErr c w f p j x = 4 := by
  rw [copyErr, if_neg g1, if_neg g2, if_pos]
  rcases h with h | h | h <;> simp [h]

theorem copyErr_zero {c : RChest} {w f p : Int} {j : Nat} {x : RCopy} (g1 : ¬ offP 1 c.last x.number = true) (g2 : ¬ (0 < j ∧ x.number ≤ (c.copies[j - 1]!).number))
    (h1 : offP 0 (w - 1) x.words = false) (h2 : offP 0 (f - 1) x.facts = false) (h3 : offP 0 (p - 1) x.may = false) : copyErr c w f p j x = 0 := by
  rw [copyErr, if_neg g1, if_neg g2, if_neg]
  simp [h1, h2, h3]

theorem ruleErr_four {c : RChest} {f : Int} {x : RRule} (h : offP 0 (f - 1) x.if_ = true ∨ offP 0 (c.facts - 1) x.then_ = true) : ruleErr c f x = 4 := by
  rw [ruleErr, if_pos]
  rcases h with h | h <;> simp [h]

theorem ruleErr_two {c : RChest} {f : Int} {x : RRule} (h1 : offP 0 (f - 1) x.if_ = false) (h2 : offP 0 (c.facts - 1) x.then_ = false) (h : x.if_ = 0) : ruleErr c f x = 2 := by
  rw [ruleErr, if_neg, if_pos h]
  rw [h1, h2]; simp

theorem ruleErr_zero {c : RChest} {f : Int} {x : RRule} (h1 : offP 0 (f - 1) x.if_ = false) (h2 : offP 0 (c.facts - 1) x.then_ = false) (h : ¬ x.if_ = 0) : ruleErr c f x = 0 := by
  rw [ruleErr, if_neg, if_neg h]
  rw [h1, h2]; simp

theorem refcheck_rest (c : RChest) (hs : namesFit c) (h0 : ¬ (offP 1 5 c.words || offP 1 6 c.facts || offP 0 30 c.last) = true) : PCall Try.prog 18 [chestA c] (.tuple [.int .i64 (checkR c).1, .int .i64 (checkR c).2.1, .int .i64 (checkR c).2.2]) := by
  have h1 : offP 1 5 c.words = false := by revert h0; cases offP 1 5 c.words <;> simp
  have h2 : offP 1 6 c.facts = false := by revert h0; cases offP 1 6 c.facts <;> simp
  have h3 : offP 0 30 c.last = false := by revert h0; cases offP 0 30 c.last <;> simp
  have b1 : 1 ≤ c.words ∧ c.words ≤ 5 := by simp [offP] at h1; omega
  have b2 : 1 ≤ c.facts ∧ c.facts ≤ 6 := by simp [offP] at h2; omega
  have b3 : 0 ≤ c.last ∧ c.last ≤ 30 := by simp [offP] at h3; omega
  have hc1 := in_c c.words 1 5
  have hc2 := in_c c.facts 1 6
  have hc3 := in_c c.last 0 30
  rw [decide_eq_true b1] at hc1; rw [decide_eq_true b2] at hc2; rw [decide_eq_true b3] at hc3
  intro m
  simp only [chestA, chestL, strs]
  (refine acall_intro (E := envC (modeAt [8, 10] []) false []) (envCOk _ _ _) rfl Try.func18 rfl Try.call18 (by kernel_rfl) (by simp [Try.ntmps18]) ?_; simp only [Try.f18];  simp (maxSteps := 4000000) only [↓VP0, ↓VP1, ↓VP2, VQ0, VQ1, VQ2, VQ3, VQ4, VT, ite_self, ite_split, Nat.reduceEqDiff, Nat.reduceAdd, Nat.reduceSub, Nat.reduceMul, Nat.reduceLeDiff, Nat.reduceLT, Nat.reduceBEq, Int.reduceLE, Int.reduceLT, Int.reduceNeg, Int.reduceAdd, Int.reduceSub, Int.reduceToNat, ↓reduceIte, reduceCtorEq])
  (refine ACall.pure (hc1) ?_; try simp (maxSteps := 4000000) only [↓VP0, ↓VP1, ↓VP2, VQ0, VQ1, VQ2, VQ3, VQ4, VT, ite_self, ite_split, Nat.reduceEqDiff, Nat.reduceAdd, Nat.reduceSub, Nat.reduceMul, Nat.reduceLeDiff, Nat.reduceLT, Nat.reduceBEq, Int.reduceLE, Int.reduceLT, Int.reduceNeg, Int.reduceAdd, Int.reduceSub, Int.reduceToNat, ↓reduceIte, reduceCtorEq])
  (refine ACall.pure (hc2) ?_; try simp (maxSteps := 4000000) only [↓VP0, ↓VP1, ↓VP2, VQ0, VQ1, VQ2, VQ3, VQ4, VT, ite_self, ite_split, Nat.reduceEqDiff, Nat.reduceAdd, Nat.reduceSub, Nat.reduceMul, Nat.reduceLeDiff, Nat.reduceLT, Nat.reduceBEq, Int.reduceLE, Int.reduceLT, Int.reduceNeg, Int.reduceAdd, Int.reduceSub, Int.reduceToNat, ↓reduceIte, reduceCtorEq])
  (refine ACall.pure (hc3) ?_; try simp (maxSteps := 4000000) only [↓VP0, ↓VP1, ↓VP2, VQ0, VQ1, VQ2, VQ3, VQ4, VT, ite_self, ite_split, Nat.reduceEqDiff, Nat.reduceAdd, Nat.reduceSub, Nat.reduceMul, Nat.reduceLeDiff, Nat.reduceLT, Nat.reduceBEq, Int.reduceLE, Int.reduceLT, Int.reduceNeg, Int.reduceAdd, Int.reduceSub, Int.reduceToNat, ↓reduceIte, reduceCtorEq])
  repeat' (first | intro _ | refine And.intro ?_ ?_)
  · have hR : checkR c = (2, 0, 3) := by rw [checkR, if_neg h0, if_pos (by omega)]
    rw [hR]
  have h4 : ¬ 3 < c.people.length := by omega
  refine aloop (envCOk _ _ _) (fun k : Nat => ⟨[(1, .v (.eptr [.int .i64 c.words, .int .i64 c.facts, .slice 1 (c.people.map AV.str), .int .i64 c.last, .slice 4 (c.copies.map copyA), .slice 2 (c.rules.map ruleA)])), (5, .v (.int .i64 k))], [], [], m⟩)
    (fun k => k ≤ c.people.length ∧ failFrom (nameErr c.people) k (c.people.drop k) = namesR c) (fun k => c.people.length - k) 0 (fun _ => rfl) ⟨Nat.zero_le _, rfl⟩ (by (simp only [Fits, fitsV, fitsO, fitsL, ↓upd, ↓lookV, ↓lookO, ↓lookL, Nat.reduceEqDiff, ↓reduceIte, ints, and_true, true_and, Option.some.injEq]); try simp) ?_
  rintro k ⟨hk, hf⟩
  simp (maxSteps := 4000000) only [↓VP0, ↓VP1, ↓VP2, VQ0, VQ1, VQ2, VQ3, VQ4, VT, ite_self, ite_split, Nat.reduceEqDiff, Nat.reduceAdd, Nat.reduceSub, Nat.reduceMul, Nat.reduceLeDiff, Nat.reduceLT, Nat.reduceBEq, Int.reduceLE, Int.reduceLT, Int.reduceNeg, Int.reduceAdd, Int.reduceSub, Int.reduceToNat, ↓reduceIte, reduceCtorEq]
  repeat' (first | intro _ | refine And.intro ?_ ?_)
  all_goals try (first | omega | (simp only [List.length_map, List.length_cons, List.length_nil, List.length_append, Nat.zero_add]; omega) | exact Int.natCast_nonneg _ | exact Int.le_trans (by decide) (Int.natCast_nonneg _) | exact Nat.le_of_ble_eq_true rfl)
  · have hlt : k < c.people.length := by omega
    have e1 : c.people[k]! = c.people[k] := getD_any hlt
    rw [List.drop_eq_getElem_cons hlt] at hf
    have hfr := fresh_c c.people[k] (c.people.take k) (hs _ (List.getElem_mem hlt))
    rw [← e1] at hfr
    simp only [strs, List.map_take] at hfr
    have hne : (if nameB c.people[k]! = true then (if (c.people.take k).any (fun x => decide (x = c.people[k]!)) = true then (5 : Int) else 0) else 6) = nameErr c.people k c.people[k] := by rw [e1]; rfl
    rw [hne] at hfr
    (refine adraw (by first | exact envOk _ | exact envCOk _ _ _) mixed [⟨false, false, 0⟩, ⟨false, false, 0⟩, ⟨false, false, 0⟩, ⟨false, false, 0⟩, ⟨false, false, 0⟩, ⟨false, false, 0⟩, ⟨false, false, 0⟩, ⟨false, false, 0⟩, ⟨false, false, 0⟩, ⟨false, false, 0⟩, ⟨false, false, 0⟩] (by kernel_rfl) ?_; show vcOpsD _ _ _ (_ :: _) _ _)
    simp (maxSteps := 4000000) only [↓VP0, ↓VP1, ↓VP2, VQ0, VQ1, VQ2, VQ3, VQ4, VT, ite_self, ite_split, Nat.reduceEqDiff, Nat.reduceAdd, Nat.reduceSub, Nat.reduceMul, Nat.reduceLeDiff, Nat.reduceLT, Nat.reduceBEq, Int.reduceLE, Int.reduceLT, Int.reduceNeg, Int.reduceAdd, Int.reduceSub, Int.reduceToNat, ↓reduceIte, reduceCtorEq]
    repeat' (first | intro _ | refine And.intro ?_ ?_)
    all_goals try (first | omega | (simp only [List.length_map, List.length_cons, List.length_nil, List.length_append, Nat.zero_add]; omega) | exact Int.natCast_nonneg _ | exact Int.le_trans (by decide) (Int.natCast_nonneg _) | exact Nat.le_of_ble_eq_true rfl)
    (refine ⟨_, hfr, ?_⟩; try simp (maxSteps := 4000000) only [↓VP0, ↓VP1, ↓VP2, VQ0, VQ1, VQ2, VQ3, VQ4, VT, ite_self, ite_split, Nat.reduceEqDiff, Nat.reduceAdd, Nat.reduceSub, Nat.reduceMul, Nat.reduceLeDiff, Nat.reduceLT, Nat.reduceBEq, Int.reduceLE, Int.reduceLT, Int.reduceNeg, Int.reduceAdd, Int.reduceSub, Int.reduceToNat, ↓reduceIte, reduceCtorEq])
    repeat' (first | intro _ | refine And.intro ?_ ?_)
    all_goals try (first | omega | (simp only [List.length_map, List.length_cons, List.length_nil, List.length_append, Nat.zero_add]; omega) | exact Int.natCast_nonneg _ | exact Int.le_trans (by decide) (Int.natCast_nonneg _) | exact Nat.le_of_ble_eq_true rfl)
    · have h5 : nameErr c.people k c.people[k] ≠ 0 := by assumption
      rw [failFrom_hit h5] at hf
      have hR : checkR c = (2, (namesR c).1, (namesR c).2) := by rw [checkR, if_neg h0, if_neg h4, if_pos (by rw [← hf]; exact h5)]
      rw [hR, ← hf]
    · have h5 : ¬ nameErr c.people k c.people[k] ≠ 0 := by assumption
      rw [failFrom_skip h5] at hf
      (refine ⟨k + 1, ?_, by dsimp only; omega, ?_⟩; rotate_left 1; · ((simp only [Fits, fitsV, fitsO, fitsL, ↓upd, ↓lookV, ↓lookO, ↓lookL, Nat.reduceEqDiff, ↓reduceIte, ints, and_true, true_and, Option.some.injEq]); try simp []))
      exact ⟨by omega, hf⟩
  all_goals rw [List.drop_eq_nil_of_le (by omega)] at hf
  all_goals have h5 : ¬ (namesR c).2 ≠ 0 := by rw [← hf]; simp [failFrom]
  · have hR : checkR c = (3, 0, 3) := by rw [checkR, if_neg h0, if_neg h4, if_neg h5, if_pos (by omega)]
    rw [hR]
  have h6 : ¬ 6 < c.copies.length := by omega
  refine aloop (envCOk _ _ _) (fun k : Nat => ⟨[(1, .v (.eptr [.int .i64 c.words, .int .i64 c.facts, .slice 1 (c.people.map AV.str), .int .i64 c.last, .slice 4 (c.copies.map copyA), .slice 2 (c.rules.map ruleA)])), (7, .v (.int .i64 k))], [], [], m⟩)
    (fun k => k ≤ c.copies.length ∧ failFrom (copyErr c (pw c.words) (pw c.facts) (pw c.people.length)) k (c.copies.drop k) = copiesR c) (fun k => c.copies.length - k) 0 (fun _ => rfl) ⟨Nat.zero_le _, rfl⟩ (by (simp only [Fits, fitsV, fitsO, fitsL, ↓upd, ↓lookV, ↓lookO, ↓lookL, Nat.reduceEqDiff, ↓reduceIte, ints, and_true, true_and, Option.some.injEq]); try simp) ?_
  rintro j ⟨hj, hg⟩
  simp (maxSteps := 4000000) only [↓VP0, ↓VP1, ↓VP2, VQ0, VQ1, VQ2, VQ3, VQ4, VT, ite_self, ite_split, Nat.reduceEqDiff, Nat.reduceAdd, Nat.reduceSub, Nat.reduceMul, Nat.reduceLeDiff, Nat.reduceLT, Nat.reduceBEq, Int.reduceLE, Int.reduceLT, Int.reduceNeg, Int.reduceAdd, Int.reduceSub, Int.reduceToNat, ↓reduceIte, reduceCtorEq, copyA]
  repeat' (first | intro _ | refine And.intro ?_ ?_)
  all_goals try (first | omega | (simp only [List.length_map, List.length_cons, List.length_nil, List.length_append, Nat.zero_add]; omega) | exact Int.natCast_nonneg _ | exact Int.le_trans (by decide) (Int.natCast_nonneg _) | exact Nat.le_of_ble_eq_true rfl)
  · have hlt : j < c.copies.length := by omega
    have e1 : c.copies[j]! = c.copies[j] := getD_any hlt
    rw [List.drop_eq_getElem_cons hlt, ← e1] at hg
    have hin := in_c (c.copies[j]!).number 1 c.last
    rw [show decide (1 ≤ (c.copies[j]!).number ∧ (c.copies[j]!).number ≤ c.last) = !offP 1 c.last (c.copies[j]!).number by rw [Bool.eq_iff_iff]; simp [offP]] at hin
    have w1 := refbits_c (c.copies[j]!).words c.words.toNat (by omega)
    have w2 := refbits_c (c.copies[j]!).facts c.facts.toNat (by omega)
    have w3 := refbits_c (c.copies[j]!).may c.people.length (by omega)
    rw [show ((c.words.toNat : Nat) : Int) = c.words by omega] at w1
    rw [show ((c.facts.toNat : Nat) : Int) = c.facts by omega] at w2
    change PCall _ _ _ (.bool (!offP 0 (pw c.words - 1) _)) at w1
    change PCall _ _ _ (.bool (!offP 0 (pw c.facts - 1) _)) at w2
    change PCall _ _ _ (.bool (!offP 0 (pw c.people.length - 1) _)) at w3
    have hhit : ∀ e : Int, copyErr c (pw c.words) (pw c.facts) (pw c.people.length) j (c.copies[j]!) = e → e ≠ 0 → checkR c = (3, (j : Int), e) := fun e he hne => by
      rw [failFrom_hit (by rw [he]; exact hne), he] at hg
      rw [checkR, if_neg h0, if_neg h4, if_neg h5, if_neg h6, if_pos (by rw [← hg]; exact hne), ← hg]
    have hskip : copyErr c (pw c.words) (pw c.facts) (pw c.people.length) j (c.copies[j]!) = 0 → failFrom (copyErr c (pw c.words) (pw c.facts) (pw c.people.length)) (j + 1) (c.copies.drop (j + 1)) = copiesR c := fun he => by
      rw [failFrom_skip (by rw [he]; simp)] at hg; exact hg
    (refine ACall.pure (hin) ?_; try simp (maxSteps := 4000000) only [↓VP0, ↓VP1, ↓VP2, VQ0, VQ1, VQ2, VQ3, VQ4, VT, ite_self, ite_split, Nat.reduceEqDiff, Nat.reduceAdd, Nat.reduceSub, Nat.reduceMul, Nat.reduceLeDiff, Nat.reduceLT, Nat.reduceBEq, Int.reduceLE, Int.reduceLT, Int.reduceNeg, Int.reduceAdd, Int.reduceSub, Int.reduceToNat, ↓reduceIte, reduceCtorEq])
    repeat' (first | intro _ | refine And.intro ?_ ?_)
    all_goals try (first | omega | (simp only [List.length_map, List.length_cons, List.length_nil, List.length_append, Nat.zero_add]; omega) | exact Int.natCast_nonneg _ | exact Int.le_trans (by decide) (Int.natCast_nonneg _) | exact Nat.le_of_ble_eq_true rfl)
    · have g1 : offP 1 c.last (c.copies[j]!).number = true := by assumption
      rw [hhit 7 (by rw [copyErr, if_pos g1]) (by decide)]
    have g1 : ¬ offP 1 c.last (c.copies[j]!).number = true := by assumption
    have hidx : ((j : Int) - 1).toNat = j - 1 := by omega
    (refine adraw (by first | exact envOk _ | exact envCOk _ _ _) mixed [⟨false, false, 0⟩, ⟨false, false, 0⟩, ⟨false, false, 0⟩, ⟨false, false, 0⟩, ⟨false, false, 0⟩, ⟨false, false, 0⟩, ⟨false, false, 0⟩, ⟨false, false, 0⟩, ⟨false, false, 0⟩, ⟨false, false, 0⟩, ⟨false, false, 0⟩, ⟨false, false, 0⟩, ⟨false, false, 0⟩, ⟨false, false, 0⟩] (by kernel_rfl) ?_; show vcOpsD _ _ _ (_ :: _) _ _)
    simp (maxSteps := 4000000) only [↓VP0, ↓VP1, ↓VP2, VQ0, VQ1, VQ2, VQ3, VQ4, VT, ite_self, ite_split, Nat.reduceEqDiff, Nat.reduceAdd, Nat.reduceSub, Nat.reduceMul, Nat.reduceLeDiff, Nat.reduceLT, Nat.reduceBEq, Int.reduceLE, Int.reduceLT, Int.reduceNeg, Int.reduceAdd, Int.reduceSub, Int.reduceToNat, ↓reduceIte, reduceCtorEq, copyA, hidx]
    repeat' (first | intro _ | refine And.intro ?_ ?_)
    all_goals try (first | omega | (simp only [List.length_map, List.length_cons, List.length_nil, List.length_append, Nat.zero_add]; omega) | exact Int.natCast_nonneg _ | exact Int.le_trans (by decide) (Int.natCast_nonneg _) | exact Nat.le_of_ble_eq_true rfl)
    · have g2 : (c.copies[j]!).number ≤ (c.copies[j - 1]!).number := by assumption
      rw [hhit 2 (by rw [copyErr, if_neg g1, if_pos ⟨by omega, g2⟩]) (by decide)]
    all_goals have g2 : ¬ (0 < j ∧ (c.copies[j]!).number ≤ (c.copies[j - 1]!).number) := by omega
    all_goals ((refine ACall.pure (w1) ?_; try simp (maxSteps := 4000000) only [↓VP0, ↓VP1, ↓VP2, VQ0, VQ1, VQ2, VQ3, VQ4, VT, ite_self, ite_split, Nat.reduceEqDiff, Nat.reduceAdd, Nat.reduceSub, Nat.reduceMul, Nat.reduceLeDiff, Nat.reduceLT, Nat.reduceBEq, Int.reduceLE, Int.reduceLT, Int.reduceNeg, Int.reduceAdd, Int.reduceSub, Int.reduceToNat, ↓reduceIte, reduceCtorEq]))
    all_goals repeat' (first | intro _ | refine And.intro ?_ ?_)
    all_goals try (first | omega | (simp only [List.length_map, List.length_cons, List.length_nil, List.length_append, Nat.zero_add]; omega) | exact Int.natCast_nonneg _ | exact Int.le_trans (by decide) (Int.natCast_nonneg _) | exact Nat.le_of_ble_eq_true rfl)
    all_goals try ((refine ACall.pure (w2) ?_; try simp (maxSteps := 4000000) only [↓VP0, ↓VP1, ↓VP2, VQ0, VQ1, VQ2, VQ3, VQ4, VT, ite_self, ite_split, Nat.reduceEqDiff, Nat.reduceAdd, Nat.reduceSub, Nat.reduceMul, Nat.reduceLeDiff, Nat.reduceLT, Nat.reduceBEq, Int.reduceLE, Int.reduceLT, Int.reduceNeg, Int.reduceAdd, Int.reduceSub, Int.reduceToNat, ↓reduceIte, reduceCtorEq]))
    all_goals repeat' (first | intro _ | refine And.intro ?_ ?_)
    all_goals try (first | omega | (simp only [List.length_map, List.length_cons, List.length_nil, List.length_append, Nat.zero_add]; omega) | exact Int.natCast_nonneg _ | exact Int.le_trans (by decide) (Int.natCast_nonneg _) | exact Nat.le_of_ble_eq_true rfl)
    all_goals try ((refine ACall.pure (w3) ?_; try simp (maxSteps := 4000000) only [↓VP0, ↓VP1, ↓VP2, VQ0, VQ1, VQ2, VQ3, VQ4, VT, ite_self, ite_split, Nat.reduceEqDiff, Nat.reduceAdd, Nat.reduceSub, Nat.reduceMul, Nat.reduceLeDiff, Nat.reduceLT, Nat.reduceBEq, Int.reduceLE, Int.reduceLT, Int.reduceNeg, Int.reduceAdd, Int.reduceSub, Int.reduceToNat, ↓reduceIte, reduceCtorEq]))
    all_goals repeat' (first | intro _ | refine And.intro ?_ ?_)
    all_goals try (first | omega | (simp only [List.length_map, List.length_cons, List.length_nil, List.length_append, Nat.zero_add]; omega) | exact Int.natCast_nonneg _ | exact Int.le_trans (by decide) (Int.natCast_nonneg _) | exact Nat.le_of_ble_eq_true rfl)
    all_goals first
      | rw [hhit 4 (copyErr_four g1 g2 (.inl (by (first | assumption | (rw [← Bool.not_eq_false]; assumption) | (rw [← Bool.not_eq_true]; assumption) | omega)))) (by decide)]
      | rw [hhit 4 (copyErr_four g1 g2 (.inr (.inl (by (first | assumption | (rw [← Bool.not_eq_false]; assumption) | (rw [← Bool.not_eq_true]; assumption) | omega))))) (by decide)]
      | rw [hhit 4 (copyErr_four g1 g2 (.inr (.inr (by (first | assumption | (rw [← Bool.not_eq_false]; assumption) | (rw [← Bool.not_eq_true]; assumption) | omega))))) (by decide)]
      | (have hz : copyErr c (pw c.words) (pw c.facts) (pw c.people.length) j (c.copies[j]!) = 0 := copyErr_zero g1 g2 (by (first | assumption | (rw [← Bool.not_eq_false]; assumption) | (rw [← Bool.not_eq_true]; assumption) | omega)) (by (first | assumption | (rw [← Bool.not_eq_false]; assumption) | (rw [← Bool.not_eq_true]; assumption) | omega)) (by (first | assumption | (rw [← Bool.not_eq_false]; assumption) | (rw [← Bool.not_eq_true]; assumption) | omega))
         (refine ⟨j + 1, ?_, by dsimp only; omega, ?_⟩; rotate_left 1; · ((simp only [Fits, fitsV, fitsO, fitsL, ↓upd, ↓lookV, ↓lookO, ↓lookL, Nat.reduceEqDiff, ↓reduceIte, ints, and_true, true_and, Option.some.injEq]); try simp []))
         exact ⟨by omega, hskip hz⟩)
  all_goals rw [List.drop_eq_nil_of_le (by omega)] at hg
  all_goals have h7 : ¬ (copiesR c).2 ≠ 0 := by rw [← hg]; simp [failFrom]
  · have hR : checkR c = (4, 0, 3) := by rw [checkR, if_neg h0, if_neg h4, if_neg h5, if_neg h6, if_neg h7, if_pos (by omega)]
    rw [hR]
  have h8 : ¬ 4 < c.rules.length := by omega
  refine aloop (envCOk _ _ _) (fun k : Nat => ⟨[(1, .v (.eptr [.int .i64 c.words, .int .i64 c.facts, .slice 1 (c.people.map AV.str), .int .i64 c.last, .slice 4 (c.copies.map copyA), .slice 2 (c.rules.map ruleA)])), (9, .v (.int .i64 k))], [], [], m⟩)
    (fun k => k ≤ c.rules.length ∧ failFrom (fun _ => ruleErr c (pw c.facts)) k (c.rules.drop k) = rulesR c) (fun k => c.rules.length - k) 0 (fun _ => rfl) ⟨Nat.zero_le _, rfl⟩ (by (simp only [Fits, fitsV, fitsO, fitsL, ↓upd, ↓lookV, ↓lookO, ↓lookL, Nat.reduceEqDiff, ↓reduceIte, ints, and_true, true_and, Option.some.injEq]); try simp) ?_
  rintro i ⟨hi, hq⟩
  simp (maxSteps := 4000000) only [↓VP0, ↓VP1, ↓VP2, VQ0, VQ1, VQ2, VQ3, VQ4, VT, ite_self, ite_split, Nat.reduceEqDiff, Nat.reduceAdd, Nat.reduceSub, Nat.reduceMul, Nat.reduceLeDiff, Nat.reduceLT, Nat.reduceBEq, Int.reduceLE, Int.reduceLT, Int.reduceNeg, Int.reduceAdd, Int.reduceSub, Int.reduceToNat, ↓reduceIte, reduceCtorEq, ruleA]
  repeat' (first | intro _ | refine And.intro ?_ ?_)
  all_goals try (first | omega | (simp only [List.length_map, List.length_cons, List.length_nil, List.length_append, Nat.zero_add]; omega) | exact Int.natCast_nonneg _ | exact Int.le_trans (by decide) (Int.natCast_nonneg _) | exact Nat.le_of_ble_eq_true rfl)
  · have hlt : i < c.rules.length := by omega
    have e1 : c.rules[i]! = c.rules[i] := getD_any hlt
    rw [List.drop_eq_getElem_cons hlt, ← e1] at hq
    have w1 := refbits_c (c.rules[i]!).if_ c.facts.toNat (by omega)
    rw [show ((c.facts.toNat : Nat) : Int) = c.facts by omega] at w1
    change PCall _ _ _ (.bool (!offP 0 (pw c.facts - 1) _)) at w1
    have w2 := in_c (c.rules[i]!).then_ 0 (c.facts - 1)
    rw [show decide (0 ≤ (c.rules[i]!).then_ ∧ (c.rules[i]!).then_ ≤ c.facts - 1) = !offP 0 (c.facts - 1) (c.rules[i]!).then_ by rw [Bool.eq_iff_iff]; simp [offP]] at w2
    have hhit : ∀ e : Int, ruleErr c (pw c.facts) (c.rules[i]!) = e → e ≠ 0 → checkR c = (4, (i : Int), e) := fun e he hne => by
      rw [failFrom_hit (by rw [he]; exact hne), he] at hq
      rw [checkR, if_neg h0, if_neg h4, if_neg h5, if_neg h6, if_neg h7, if_neg h8, if_pos (by rw [← hq]; exact hne), ← hq]
    have hskip : ruleErr c (pw c.facts) (c.rules[i]!) = 0 → failFrom (fun _ => ruleErr c (pw c.facts)) (i + 1) (c.rules.drop (i + 1)) = rulesR c := fun he => by
      rw [failFrom_skip (by rw [he]; simp)] at hq; exact hq
    (refine ACall.pure (w1) ?_; try simp (maxSteps := 4000000) only [↓VP0, ↓VP1, ↓VP2, VQ0, VQ1, VQ2, VQ3, VQ4, VT, ite_self, ite_split, Nat.reduceEqDiff, Nat.reduceAdd, Nat.reduceSub, Nat.reduceMul, Nat.reduceLeDiff, Nat.reduceLT, Nat.reduceBEq, Int.reduceLE, Int.reduceLT, Int.reduceNeg, Int.reduceAdd, Int.reduceSub, Int.reduceToNat, ↓reduceIte, reduceCtorEq])
    repeat' (first | intro _ | refine And.intro ?_ ?_)
    all_goals try (first | omega | (simp only [List.length_map, List.length_cons, List.length_nil, List.length_append, Nat.zero_add]; omega) | exact Int.natCast_nonneg _ | exact Int.le_trans (by decide) (Int.natCast_nonneg _) | exact Nat.le_of_ble_eq_true rfl)
    all_goals try ((refine ACall.pure (w2) ?_; try simp (maxSteps := 4000000) only [↓VP0, ↓VP1, ↓VP2, VQ0, VQ1, VQ2, VQ3, VQ4, VT, ite_self, ite_split, Nat.reduceEqDiff, Nat.reduceAdd, Nat.reduceSub, Nat.reduceMul, Nat.reduceLeDiff, Nat.reduceLT, Nat.reduceBEq, Int.reduceLE, Int.reduceLT, Int.reduceNeg, Int.reduceAdd, Int.reduceSub, Int.reduceToNat, ↓reduceIte, reduceCtorEq]))
    all_goals repeat' (first | intro _ | refine And.intro ?_ ?_)
    all_goals try (first | omega | (simp only [List.length_map, List.length_cons, List.length_nil, List.length_append, Nat.zero_add]; omega) | exact Int.natCast_nonneg _ | exact Int.le_trans (by decide) (Int.natCast_nonneg _) | exact Nat.le_of_ble_eq_true rfl)
    all_goals first
      | rw [hhit 4 (ruleErr_four (.inl (by (first | assumption | (rw [← Bool.not_eq_false]; assumption) | (rw [← Bool.not_eq_true]; assumption) | omega)))) (by decide)]
      | rw [hhit 4 (ruleErr_four (.inr (by (first | assumption | (rw [← Bool.not_eq_false]; assumption) | (rw [← Bool.not_eq_true]; assumption) | omega)))) (by decide)]
      | rw [hhit 2 (ruleErr_two (by (first | assumption | (rw [← Bool.not_eq_false]; assumption) | (rw [← Bool.not_eq_true]; assumption) | omega)) (by (first | assumption | (rw [← Bool.not_eq_false]; assumption) | (rw [← Bool.not_eq_true]; assumption) | omega)) (by (first | assumption | (rw [← Bool.not_eq_false]; assumption) | (rw [← Bool.not_eq_true]; assumption) | omega))) (by decide)]
      | (have hz : ruleErr c (pw c.facts) (c.rules[i]!) = 0 := ruleErr_zero (by (first | assumption | (rw [← Bool.not_eq_false]; assumption) | (rw [← Bool.not_eq_true]; assumption) | omega)) (by (first | assumption | (rw [← Bool.not_eq_false]; assumption) | (rw [← Bool.not_eq_true]; assumption) | omega)) (by (first | assumption | (rw [← Bool.not_eq_false]; assumption) | (rw [← Bool.not_eq_true]; assumption) | omega))
         (refine ⟨i + 1, ?_, by dsimp only; omega, ?_⟩; rotate_left 1; · ((simp only [Fits, fitsV, fitsO, fitsL, ↓upd, ↓lookV, ↓lookO, ↓lookL, Nat.reduceEqDiff, ↓reduceIte, ints, and_true, true_and, Option.some.injEq]); try simp []))
         exact ⟨by omega, hskip hz⟩)
  · rw [List.drop_eq_nil_of_le (by omega)] at hq
    have h9 : ¬ (rulesR c).2 ≠ 0 := by rw [← hq]; simp [failFrom]
    have hR : checkR c = (0, 0, 0) := by rw [checkR, if_neg h0, if_neg h4, if_neg h5, if_neg h6, if_neg h7, if_neg h8, if_neg h9]
    rw [hR]

theorem refcheck_c (c : RChest) (hs : namesFit c) : PCall Try.prog 18 [chestA c] (.tuple [.int .i64 (checkR c).1, .int .i64 (checkR c).2.1, .int .i64 (checkR c).2.2]) := by
  by_cases h0 : (offP 1 5 c.words || offP 1 6 c.facts || offP 0 30 c.last) = true
  · have hR : checkR c = (1, 0, 7) := by rw [checkR, if_pos h0]
    rw [hR]; exact refcheck_first c h0
  · exact refcheck_rest c hs h0
end Go.Proofs.Ytakkdmdkelbnjaa.Abs
