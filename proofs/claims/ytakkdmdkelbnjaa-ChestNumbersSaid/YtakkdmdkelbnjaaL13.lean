/- The statement ChestNumbers: for any chest and number the law returns true. Conditions: none. -/
import Derived.Test.YtakkdmdkelbnjaaK11
import Derived.Test.YtakkdmdkelbnjaaK10
namespace Go.Proofs.Ytakkdmdkelbnjaa.Abs
set_option linter.unusedSimpArgs false
open Go Go.RowKit Go.Proofs

theorem risingL_of {u : Int} : ∀ {l : List Int} {last : Int}, l.Pairwise (· < ·) → (∀ x ∈ l, last < x ∧ x < u) → risingL u last l = true
  | [], _, _, _ => rfl
  | x :: l, last, hp, h => by
    rw [List.pairwise_cons] at hp
    rw [risingL, risingL_of hp.2 fun y hy => ⟨hp.1 y hy, (h y (by simp [hy])).2⟩]
    have := h x (by simp)
    simp; omega

theorem mem_lostTo {v : VChest} {k : Nat} {x : Int} : x ∈ lostTo v k ↔ (∃ i, i < k ∧ x = (i : Int) + 1) ∧ x ∉ numbersL v := by
  unfold lostTo
  simp only [List.mem_filter, List.mem_map, List.mem_range, decide_eq_true_eq]
  constructor
  · rintro ⟨⟨i, h1, h2⟩, h3⟩; exact ⟨⟨i, h1, h2.symm⟩, h3⟩
  · rintro ⟨⟨i, h1, h2⟩, h3⟩; exact ⟨⟨i, h1, h2.symm⟩, h3⟩

theorem lost_rising (v : VChest) : risingL ((v.last : Int) + 1) (-1) (lostL v) = true := by
  refine risingL_of ?_ fun x hx => ?_
  · unfold lostL lostTo
    refine List.Pairwise.filter _ ?_
    rw [List.pairwise_map]
    refine List.Pairwise.imp (R := (· < ·)) (fun {a b} h => by omega) List.pairwise_lt_range
  · obtain ⟨⟨i, h1, h2⟩, _⟩ := mem_lostTo.1 hx
    omega

/-- Copies in the order of their numbers. -/
def Sorted (l : List VCopy) : Prop := l.Pairwise fun x y => x.number < y.number

theorem sorted_of (v : VChest) (hv : VOk v) : Sorted v.copies := by
  unfold Sorted
  rw [List.pairwise_iff_getElem]
  intro i j hi hj h
  have := rise_lt hv h hj
  rwa [getD_any hi, getD_any hj] at this

theorem count_succ (k : Nat) : ∀ {l : List VCopy}, Sorted l → (l.filter fun x => decide (x.number ≤ k + 1)).length = (l.filter fun x => decide (x.number ≤ k)).length + if (k + 1) ∈ l.map VCopy.number then 1 else 0
  | [], _ => by simp
  | x :: l, h => by
    unfold Sorted at h
    rw [List.pairwise_cons] at h
    have ih := count_succ k (l := l) h.2
    rcases Nat.lt_trichotomy x.number (k + 1) with h1 | h1 | h1
    · rw [List.filter_cons_of_pos (by simp; omega), List.filter_cons_of_pos (by simp; omega), List.length_cons, List.length_cons, ih]
      have : (k + 1 ∈ (x :: l).map VCopy.number) ↔ (k + 1 ∈ l.map VCopy.number) := by
        rw [List.map_cons, List.mem_cons]
        constructor
        · rintro (h | h)
          · omega
          · exact h
        · exact .inr
      simp only [this]; omega
    · have hn : ∀ y ∈ l, k + 1 < y.number := fun y hy => by have := h.1 y hy; omega
      rw [List.filter_cons_of_pos (by simp; omega), List.filter_cons_of_neg (by simp; omega)]
      have e1 : l.filter (fun x => decide (x.number ≤ k + 1)) = [] := by rw [List.filter_eq_nil_iff]; intro y hy; have := hn y hy; simp; omega
      have e2 : l.filter (fun x => decide (x.number ≤ k)) = [] := by rw [List.filter_eq_nil_iff]; intro y hy; have := hn y hy; simp; omega
      rw [e1, e2, if_pos (by rw [List.map_cons, h1]; simp)]; rfl
    · have hn : ∀ y ∈ x :: l, k + 1 < y.number := fun y hy => by
        rcases List.mem_cons.1 hy with rfl | hy
        · exact h1
        · have := h.1 y hy; omega
      have e1 : (x :: l).filter (fun x => decide (x.number ≤ k + 1)) = [] := by rw [List.filter_eq_nil_iff]; intro y hy; have := hn y hy; simp; omega
      have e2 : (x :: l).filter (fun x => decide (x.number ≤ k)) = [] := by rw [List.filter_eq_nil_iff]; intro y hy; have := hn y hy; simp; omega
      rw [e1, e2, if_neg]
      · rfl
      · rw [List.mem_map]; rintro ⟨y, hy, e⟩; have := hn y hy; omega

theorem numbers_nat {v : VChest} {k : Nat} : (k : Int) + 1 ∈ numbersL v ↔ (k + 1) ∈ v.copies.map VCopy.number := by
  unfold numbersL
  rw [List.mem_map, List.mem_map]
  constructor
  · rintro ⟨x, h1, h2⟩; exact ⟨x, h1, by omega⟩
  · rintro ⟨x, h1, h2⟩; exact ⟨x, h1, by omega⟩

theorem lost_count (v : VChest) (hv : VOk v) : ∀ k, (lostTo v k).length + (v.copies.filter fun x => decide (x.number ≤ k)).length = k
  | 0 => by
    have e : v.copies.filter (fun x => decide (x.number ≤ 0)) = [] := by
      rw [List.filter_eq_nil_iff]; intro x hx
      have := (hv.copy x hx).1
      simp; omega
    rw [e]; simp [lostTo]
  | k + 1 => by
    have ih := lost_count v hv k
    rw [lostTo_succ, count_succ k (sorted_of v hv)]
    by_cases h : (k : Int) + 1 ∈ numbersL v
    · rw [if_pos h, if_pos (numbers_nat.1 h)]; omega
    · rw [if_neg h, if_neg (fun q => h (numbers_nat.2 q)), List.length_append]
      simp; omega

theorem lost_all (v : VChest) (hv : VOk v) : (lostL v).length + v.copies.length = v.last := by
  have h := lost_count v hv v.last
  rwa [List.filter_eq_self.2 fun x hx => by have := (hv.copy x hx).2.1; simpa using this] at h

/-- Where a copy with a number is put. -/
def putAt (l : List VCopy) (n : Nat) : Nat := l.findIdx fun x => decide (n < x.number)
def newC (n : Nat) : VCopy := ⟨n, 0, 0, 0⟩
def insL (l : List VCopy) (n : Nat) : List VCopy := l.take (putAt l n) ++ newC n :: l.drop (putAt l n)
/-- What has been put down before the k-th copy. -/
def accL (l : List VCopy) (n k : Nat) : List VCopy := if k ≤ putAt l n then l.take k else l.take (putAt l n) ++ newC n :: (l.drop (putAt l n)).take (k - putAt l n)

theorem put_le (l : List VCopy) (n : Nat) : putAt l n ≤ l.length := List.findIdx_le_length

theorem put_iff {l : List VCopy} (hs : Sorted l) {n k : Nat} (h : k < l.length) : n < (l[k]!).number ↔ putAt l n ≤ k := by
  rw [getD_any h]
  constructor
  · intro h1
    apply Decidable.byContradiction; intro h2
    have := List.not_of_lt_findIdx (p := fun x : VCopy => decide (n < x.number)) (xs := l) (i := k) (by unfold putAt at h2; omega)
    simp at this; omega
  · intro h1
    have h2 : putAt l n < l.length := by omega
    have h3 : n < (l[putAt l n]).number := by
      exact of_decide_eq_true (List.findIdx_getElem (p := fun x : VCopy => decide (n < x.number)) (xs := l) (w := h2))
    by_cases e : putAt l n = k
    · subst e; exact h3
    · have := List.pairwise_iff_getElem.1 hs (putAt l n) k h2 h (by omega)
      omega

theorem acc_zero (l : List VCopy) (n : Nat) : accL l n 0 = [] := by unfold accL; rw [if_pos (by omega)]; rfl

theorem acc_before {l : List VCopy} {n k : Nat} (h : k < l.length) (hk : k < putAt l n) : accL l n (k + 1) = accL l n k ++ [l[k]!] := by
  unfold accL
  rw [if_pos (by omega), if_pos (by omega), List.take_succ_eq_append_getElem h, getD_any h]

theorem acc_at {l : List VCopy} {n k : Nat} (h : k < l.length) (hk : k = putAt l n) : accL l n (k + 1) = accL l n k ++ [newC n] ++ [l[k]!] := by
  have e : (l.drop k).take 1 = [l[k]] := by rw [List.drop_eq_getElem_cons h]; rfl
  unfold accL
  rw [if_neg (by omega), if_pos (by omega), ← hk, show k + 1 - k = 1 by omega, e, getD_any h]
  simp

theorem acc_behind {l : List VCopy} {n k : Nat} (h : k < l.length) (hk : putAt l n < k) : accL l n (k + 1) = accL l n k ++ [l[k]!] := by
  unfold accL
  rw [if_neg (by omega), if_neg (by omega), show k + 1 - putAt l n = (k - putAt l n) + 1 by omega]
  have h2 : k - putAt l n < (l.drop (putAt l n)).length := by rw [List.length_drop]; omega
  rw [List.take_succ_eq_append_getElem h2, getD_any h]
  simp only [List.getElem_drop, List.append_assoc, List.cons_append]
  congr 4
  congr 1
  omega

theorem acc_end (l : List VCopy) (n : Nat) : (if putAt l n < l.length then accL l n l.length else accL l n l.length ++ [newC n]) = insL l n := by
  have h1 := put_le l n
  unfold accL insL
  by_cases h : putAt l n < l.length
  · have e : (l.drop (putAt l n)).take (l.length - putAt l n) = l.drop (putAt l n) := List.take_of_length_le (by rw [List.length_drop]; omega)
    rw [if_pos h, if_neg (by omega), e]
  · rw [if_neg h, if_pos (by omega)]
    have e : putAt l n = l.length := by omega
    rw [e, List.drop_length]

theorem acc_length (l : List VCopy) (n k : Nat) : (accL l n k).length ≤ l.length + 1 := by
  unfold accL
  split
  · rw [List.length_take]; omega
  · simp only [List.length_append, List.length_cons, List.length_take, List.length_drop]; omega

theorem ins_length (l : List VCopy) (n : Nat) : (insL l n).length = l.length + 1 := by
  have := put_le l n
  unfold insL
  simp only [List.length_append, List.length_cons, List.length_take, List.length_drop]; omega

theorem ins_mem {l : List VCopy} {n : Nat} {x : VCopy} : x ∈ insL l n ↔ x ∈ l ∨ x = newC n := by
  unfold insL
  rw [List.mem_append, List.mem_cons]
  constructor
  · rintro (h | h | h)
    · exact .inl (List.mem_of_mem_take h)
    · exact .inr h
    · exact .inl (List.mem_of_mem_drop h)
  · rintro (h | h)
    · rw [← List.take_append_drop (putAt l n) l, List.mem_append] at h
      rcases h with h | h
      · exact .inl h
      · exact .inr (.inr h)
    · exact .inr (.inl h)

theorem ins_sorted {l : List VCopy} (hs : Sorted l) {n : Nat} (hn : ∀ x ∈ l, x.number ≠ n) : Sorted (insL l n) := by
  unfold Sorted insL
  rw [List.pairwise_append]
  have hd : ∀ y ∈ l.drop (putAt l n), n < y.number := fun y hy => by
    obtain ⟨i, hi, rfl⟩ := List.mem_iff_getElem.1 hy
    rw [List.length_drop] at hi
    rw [List.getElem_drop, ← getD_any (by omega)]
    exact (put_iff hs (by omega)).2 (by omega)
  have ht : ∀ x ∈ l.take (putAt l n), x.number < n := fun x hx => by
    obtain ⟨i, hi, rfl⟩ := List.mem_iff_getElem.1 hx
    rw [List.length_take] at hi
    rw [List.getElem_take]
    have h1 := put_iff hs (n := n) (k := i) (by omega)
    rw [getD_any (by omega)] at h1
    have h2 := hn (l[i]) (List.getElem_mem _)
    omega
  refine ⟨List.Pairwise.take hs, ?_, fun x hx y hy => ?_⟩
  · rw [List.pairwise_cons]
    exact ⟨fun y hy => hd y hy, List.Pairwise.drop hs⟩
  · rcases List.mem_cons.1 hy with rfl | hy
    · exact ht x hx
    · have h1 := ht x hx; have h2 := hd y hy; omega

def moreV (v : VChest) (n : Nat) : VChest := { v with copies := insL v.copies n }

theorem more_ok (v : VChest) (hv : VOk v) {n : Nat} (h1 : 1 ≤ n) (h2 : n ≤ v.last) (hn : (n : Int) ∉ numbersL v) (h6 : v.copies.length ≠ 6) : VOk (moreV v n) := by
  have hne : ∀ x ∈ v.copies, x.number ≠ n := fun x hx e => hn (by unfold numbersL; exact List.mem_map.2 ⟨x, hx, by rw [e]⟩)
  have hso := ins_sorted (sorted_of v hv) hne
  have hc := hv.c
  refine ⟨hv.w, hv.f, hv.l, hv.p, hv.names, ?_, fun x hx => ?_, fun i hi => ?_, hv.r, hv.rule⟩
  · show (insL v.copies n).length ≤ 6
    rw [ins_length]; omega
  · rcases ins_mem.1 (show x ∈ insL v.copies n from hx) with h | rfl
    · exact hv.copy x h
    · exact ⟨h1, h2, Nat.pow_pos (by decide), Nat.pow_pos (by decide), Nat.pow_pos (by decide)⟩
  · show ((insL v.copies n)[i]!).number < ((insL v.copies n)[i + 1]!).number
    have hi' : i + 1 < (insL v.copies n).length := hi
    rw [getD_any (by omega), getD_any hi']
    exact List.pairwise_iff_getElem.1 hso i (i + 1) (by omega) hi' (by omega)

theorem more_numbers (v : VChest) (n : Nat) (x : Int) : x ∈ numbersL (moreV v n) ↔ x ∈ numbersL v ∨ x = n := by
  unfold numbersL
  rw [List.mem_map, List.mem_map]
  constructor
  · rintro ⟨y, h1, h2⟩
    rcases ins_mem.1 (show y ∈ insL v.copies n from h1) with h | rfl
    · exact .inl ⟨y, h, h2⟩
    · exact .inr h2.symm
  · rintro (⟨y, h1, h2⟩ | h)
    · exact ⟨y, ins_mem.2 (.inl h1), h2⟩
    · exact ⟨newC n, ins_mem.2 (.inr rfl), h.symm⟩

theorem more_lost (v : VChest) (hv : VOk v) {n : Nat} (h : (n : Int) ∈ lostL v) (h6 : v.copies.length ≠ 6) :
    VOk (moreV v n) ∧ (lostL (moreV v n)).length + 1 = (lostL v).length ∧ ((lostL (moreV v n)).all fun x => decide (x ∈ lostL v)) = true ∧ (n : Int) ∉ lostL (moreV v n) := by
  obtain ⟨⟨i, q1, q2⟩, q3⟩ := mem_lostTo.1 h
  have ho := more_ok v hv (n := n) (by omega) (by omega) q3 h6
  have c1 := lost_all v hv
  have c2 := lost_all (moreV v n) ho
  have c3 := ins_length v.copies n
  have e1 : (moreV v n).copies.length = (insL v.copies n).length := rfl
  have e2 : (moreV v n).last = v.last := rfl
  refine ⟨ho, by omega, ?_, ?_⟩
  · rw [List.all_eq_true]
    intro x hx
    obtain ⟨p1, p2⟩ := mem_lostTo.1 hx
    rw [decide_eq_true_eq]
    exact mem_lostTo.2 ⟨p1, fun hc => p2 ((more_numbers v n x).2 (.inl hc))⟩
  · intro hx
    exact (mem_lostTo.1 hx).2 ((more_numbers v n n).2 (.inr rfl))
end Go.Proofs.Ytakkdmdkelbnjaa.Abs

namespace Go.Proofs.Ytakkdmdkelbnjaa.Abs
set_option linter.unusedSimpArgs false
set_option maxHeartbeats 4000000
set_option maxRecDepth 100000
open Go Go.RowKit Go.Proofs

theorem chestNumbers_bad (c : RChest) (hs : namesFit c) (x : Nat) (h : ¬ (checkR c).2.2 = 0) :
    PCall Try.prog 15 [chestA c, .int .u8 x] (.bool true) := by
  intro m
  have h1 := valid_bad c hs h
  have h2 := lost_c c hs
  rw [lost_bad h] at h2
  have aw := awake_c
  generalize (checkR c).2.2 = e at *
  simp only [chestA, chestL, strs, ints, List.map_nil] at *
  (refine acall_intro (E := envC (modeAt [8] []) false []) (envCOk _ _ _) rfl Try.func15 rfl Try.call15 (by kernel_rfl) (by simp [Try.ntmps15]) ?_; simp only [Try.f15];  simp (maxSteps := 4000000) only [↓VP0, ↓VP1, ↓VP2, VQ0, VQ1, VQ2, VQ3, VQ4, VT, ite_self, ite_split, Nat.reduceEqDiff, Nat.reduceAdd, Nat.reduceSub, Nat.reduceMul, Nat.reduceLeDiff, Nat.reduceLT, Nat.reduceBEq, Int.reduceLE, Int.reduceLT, Int.reduceNeg, Int.reduceAdd, Int.reduceSub, Int.reduceToNat, ↓reduceIte, reduceCtorEq])
  (repeat' (first | intro _ | refine And.intro ?_ ?_ | (refine ACall.pure (by with_reducible assumption) ?_; try simp (maxSteps := 4000000) only [↓VP0, ↓VP1, ↓VP2, VQ0, VQ1, VQ2, VQ3, VQ4, VT, ite_self, ite_split, Nat.reduceEqDiff, Nat.reduceAdd, Nat.reduceSub, Nat.reduceMul, Nat.reduceLeDiff, Nat.reduceLT, Nat.reduceBEq, Int.reduceLE, Int.reduceLT, Int.reduceNeg, Int.reduceAdd, Int.reduceSub, Int.reduceToNat, ↓reduceIte, reduceCtorEq, eq_self, decide_true, decide_false, if_true, if_false, not_true_eq_false, List.append_eq, h]) | (refine VPure.of (by with_reducible assumption) ?_; try simp (maxSteps := 4000000) only [↓VP0, ↓VP1, ↓VP2, VQ0, VQ1, VQ2, VQ3, VQ4, VT, ite_self, ite_split, Nat.reduceEqDiff, Nat.reduceAdd, Nat.reduceSub, Nat.reduceMul, Nat.reduceLeDiff, Nat.reduceLT, Nat.reduceBEq, Int.reduceLE, Int.reduceLT, Int.reduceNeg, Int.reduceAdd, Int.reduceSub, Int.reduceToNat, ↓reduceIte, reduceCtorEq, eq_self, decide_true, decide_false, if_true, if_false, not_true_eq_false, List.append_eq, h])))
  all_goals try (first | omega | (simp only [List.length_map, List.length_cons, List.length_nil, List.length_append, Nat.zero_add]; omega) | exact Int.natCast_nonneg _ | exact Int.le_trans (by decide) (Int.natCast_nonneg _) | exact Nat.le_of_ble_eq_true rfl)

theorem chestNumbers_ok (v : VChest) (hv : VOk v) (hs : namesFit v.raw) (x : Nat) (hx : x < 256) :
    PCall Try.prog 15 [vchestA v, .int .u8 x] (.bool true) := by
  intro m
  have hc6 := hv.c
  have hl30 := hv.l
  have h1 := valid_ok v hv hs
  have h2 := lost_c v.raw hs
  rw [lost_v hv, vchestA_raw] at h2
  have hall := lost_all v hv
  have r1 := rising_c (lostL v) ((v.last : Int) + 1)
  rw [lost_rising] at r1
  have z1 := has_c (lostL v) 0
  rw [decide_eq_false fun h => by obtain ⟨⟨i, _, q⟩, _⟩ := mem_lostTo.1 h; omega] at z1
  have aw := awake_c
  have hN : 0 < (lostL v).length → ∃ N : Nat, (lostL v)[x % (lostL v).length]! = (N : Int) ∧ (N : Int) ∈ lostL v := fun h => by
    have hq := Nat.mod_lt x h
    have hm : (lostL v)[x % (lostL v).length]! ∈ lostL v := by rw [getD_idx hq]; exact List.getElem_mem hq
    obtain ⟨⟨i, _, q⟩, _⟩ := mem_lostTo.1 hm
    exact ⟨i + 1, by rw [q]; rfl, by rw [show (((i + 1 : Nat) : Nat) : Int) = (i : Int) + 1 from rfl, ← q]; exact hm⟩
  have hmore := fun (N : Nat) (h : (N : Int) ∈ lostL v) (h6 : v.copies.length ≠ 6) => more_lost v hv h h6
  have hlost := fun (N : Nat) (h : VOk (moreV v N)) => by
    have q := lost_c (moreV v N).raw hs
    rw [lost_v h, vchestA_raw] at q
    exact q
  have hso := sorted_of v hv
  simp only [vchestA, vchestL, strs, ints, List.map_nil] at *
  (refine acall_intro (E := envC (modeAt [8] []) false []) (envCOk _ _ _) rfl Try.func15 rfl Try.call15 (by kernel_rfl) (by simp [Try.ntmps15]) ?_; simp only [Try.f15];  simp (maxSteps := 4000000) only [↓VP0, ↓VP1, ↓VP2, VQ0, VQ1, VQ2, VQ3, VQ4, VT, ite_self, ite_split, Nat.reduceEqDiff, Nat.reduceAdd, Nat.reduceSub, Nat.reduceMul, Nat.reduceLeDiff, Nat.reduceLT, Nat.reduceBEq, Int.reduceLE, Int.reduceLT, Int.reduceNeg, Int.reduceAdd, Int.reduceSub, Int.reduceToNat, ↓reduceIte, reduceCtorEq])
  (repeat' (first | intro _ | refine And.intro ?_ ?_ | (refine ACall.pure (by with_reducible assumption) ?_; try simp (maxSteps := 4000000) only [↓VP0, ↓VP1, ↓VP2, VQ0, VQ1, VQ2, VQ3, VQ4, VT, ite_self, ite_split, Nat.reduceEqDiff, Nat.reduceAdd, Nat.reduceSub, Nat.reduceMul, Nat.reduceLeDiff, Nat.reduceLT, Nat.reduceBEq, Int.reduceLE, Int.reduceLT, Int.reduceNeg, Int.reduceAdd, Int.reduceSub, Int.reduceToNat, ↓reduceIte, reduceCtorEq, eq_self, decide_true, decide_false, if_true, if_false, not_true_eq_false, List.append_eq, natMod]) | (refine VPure.of (by with_reducible assumption) ?_; try simp (maxSteps := 4000000) only [↓VP0, ↓VP1, ↓VP2, VQ0, VQ1, VQ2, VQ3, VQ4, VT, ite_self, ite_split, Nat.reduceEqDiff, Nat.reduceAdd, Nat.reduceSub, Nat.reduceMul, Nat.reduceLeDiff, Nat.reduceLT, Nat.reduceBEq, Int.reduceLE, Int.reduceLT, Int.reduceNeg, Int.reduceAdd, Int.reduceSub, Int.reduceToNat, ↓reduceIte, reduceCtorEq, eq_self, decide_true, decide_false, if_true, if_false, not_true_eq_false, List.append_eq, natMod])))
  all_goals try (first | omega | (simp only [List.length_map, List.length_cons, List.length_nil, List.length_append, Nat.zero_add]; omega) | exact Int.natCast_nonneg _ | exact Int.le_trans (by decide) (Int.natCast_nonneg _) | exact Nat.le_of_ble_eq_true rfl)
  · exact Nat.mod_lt _ (by omega)
  obtain ⟨N, hN1, hN2⟩ := hN (by omega)
  obtain ⟨m1, m2, m3, m4⟩ := hmore N hN2 (by omega)
  have hlo := hlost N m1
  have sb := subset_c (lostL (moreV v N)) (lostL v)
  rw [m3] at sb
  have z2 := has_c (lostL (moreV v N)) N
  rw [decide_eq_false m4] at z2
  have hend := acc_end v.copies N
  have hpi := fun k (h : k < v.copies.length) => put_iff hso (n := N) h
  have hpl := put_le v.copies N
  have hal := fun k => acc_length v.copies N k
  have hNl : N ≤ 30 := by obtain ⟨⟨i, q1, q2⟩, _⟩ := mem_lostTo.1 hN2; omega
  simp only [ints, moreV] at hlo sb z2 m2
  refine aloop (envOk _) (fun k : Nat => ⟨[(2, .v (.eptr [.int .i64 v.words, .int .i64 v.facts, .slice 1 (v.people.map AV.str), .int .i64 v.last, .slice 4 (v.copies.map vcopyA), .slice 2 (v.rules.map vruleA)])), (5, .v (.slice 1 ((lostL v).map (AV.int .i64)))), (7, .v (.int .i64 N)),
      (8, .loc 8 0), (9, .v (.bool (decide (putAt v.copies N < k)))), (10, .v (.int .i64 k))], [], [(8, [.int .i64 v.words, .int .i64 v.facts, .slice 1 (v.people.map AV.str), .int .i64 v.last, .slice 4 ((accL v.copies N k).map vcopyA), .slice 2 (v.rules.map vruleA)])], m⟩)
    (fun k => k ≤ v.copies.length) (fun k => v.copies.length - k) 0 (fun _ => rfl) (by simp) (by (simp only [Fits, fitsV, fitsO, fitsL, ↓upd, ↓lookV, ↓lookO, ↓lookL, Nat.reduceEqDiff, ↓reduceIte, ints, and_true, true_and, Option.some.injEq]); simp [acc_zero, hN1]) ?_
  intro k hk
  have hal' := hal k
  simp (maxSteps := 4000000) only [↓VP0, ↓VP1, ↓VP2, VQ0, VQ1, VQ2, VQ3, VQ4, VT, ite_self, ite_split, Nat.reduceEqDiff, Nat.reduceAdd, Nat.reduceSub, Nat.reduceMul, Nat.reduceLeDiff, Nat.reduceLT, Nat.reduceBEq, Int.reduceLE, Int.reduceLT, Int.reduceNeg, Int.reduceAdd, Int.reduceSub, Int.reduceToNat, ↓reduceIte, reduceCtorEq, ↓vcopyA]
  repeat' (first | intro _ | refine And.intro ?_ ?_)
  all_goals try (first | omega | (simp only [List.length_map, List.length_cons, List.length_nil, List.length_append, Nat.zero_add]; omega) | exact Int.natCast_nonneg _ | exact Int.le_trans (by decide) (Int.natCast_nonneg _) | exact Nat.le_of_ble_eq_true rfl)
  · have hlt : k < v.copies.length := by omega
    have hk2 : k = putAt v.copies N := by have := (hpi k hlt).1 (by omega); omega
    have ha := acc_at hlt hk2
    (refine adraw (envOk _) mixed [⟨false, false, 0⟩, ⟨false, false, 0⟩, ⟨false, false, 0⟩, ⟨false, true, 0⟩, ⟨false, false, 0⟩, ⟨false, false, 0⟩, ⟨false, false, 0⟩, ⟨false, false, 0⟩, ⟨false, false, 0⟩, ⟨false, false, 0⟩, ⟨false, true, 0⟩, ⟨false, false, 0⟩, ⟨false, false, 0⟩] (by kernel_rfl) ?_; show vcOpsD _ _ _ (_ :: _) _ _)
    simp (maxSteps := 4000000) only [↓VP0, ↓VP1, ↓VP2, VQ0, VQ1, VQ2, VQ3, VQ4, VT, ite_self, ite_split, Nat.reduceEqDiff, Nat.reduceAdd, Nat.reduceSub, Nat.reduceMul, Nat.reduceLeDiff, Nat.reduceLT, Nat.reduceBEq, Int.reduceLE, Int.reduceLT, Int.reduceNeg, Int.reduceAdd, Int.reduceSub, Int.reduceToNat, ↓reduceIte, reduceCtorEq, ↓vcopyA]
    repeat' (first | intro _ | refine And.intro ?_ ?_)
    all_goals try (first | omega | (simp only [List.length_map, List.length_cons, List.length_nil, List.length_append, Nat.zero_add]; omega) | exact Int.natCast_nonneg _ | exact Int.le_trans (by decide) (Int.natCast_nonneg _) | exact Nat.le_of_ble_eq_true rfl)
    refine ⟨k + 1, by dsimp only; omega, by dsimp only; omega, ?_⟩
    (simp only [Fits, fitsV, fitsO, fitsL, ↓upd, ↓lookV, ↓lookO, ↓lookL, Nat.reduceEqDiff, ↓reduceIte, ints, and_true, true_and, Option.some.injEq])
    rw [ha]
    simp [vcopyA, newC, -List.getElem!_eq_getElem?_getD]
    omega
  · have hlt : k < v.copies.length := by omega
    have hk2 : k < putAt v.copies N := by have := fun h => (hpi k hlt).2 h; omega
    have ha := acc_before hlt hk2
    (refine adraw (envOk _) mixed [⟨false, false, 0⟩, ⟨false, false, 0⟩, ⟨false, false, 0⟩, ⟨false, true, 0⟩, ⟨false, false, 0⟩, ⟨false, false, 0⟩, ⟨false, false, 0⟩, ⟨false, false, 0⟩, ⟨false, false, 0⟩, ⟨false, false, 0⟩, ⟨false, true, 0⟩, ⟨false, false, 0⟩, ⟨false, false, 0⟩] (by kernel_rfl) ?_; show vcOpsD _ _ _ (_ :: _) _ _)
    simp (maxSteps := 4000000) only [↓VP0, ↓VP1, ↓VP2, VQ0, VQ1, VQ2, VQ3, VQ4, VT, ite_self, ite_split, Nat.reduceEqDiff, Nat.reduceAdd, Nat.reduceSub, Nat.reduceMul, Nat.reduceLeDiff, Nat.reduceLT, Nat.reduceBEq, Int.reduceLE, Int.reduceLT, Int.reduceNeg, Int.reduceAdd, Int.reduceSub, Int.reduceToNat, ↓reduceIte, reduceCtorEq, ↓vcopyA]
    repeat' (first | intro _ | refine And.intro ?_ ?_)
    all_goals try (first | omega | (simp only [List.length_map, List.length_cons, List.length_nil, List.length_append, Nat.zero_add]; omega) | exact Int.natCast_nonneg _ | exact Int.le_trans (by decide) (Int.natCast_nonneg _) | exact Nat.le_of_ble_eq_true rfl)
    refine ⟨k + 1, by dsimp only; omega, by dsimp only; omega, ?_⟩
    (simp only [Fits, fitsV, fitsO, fitsL, ↓upd, ↓lookV, ↓lookO, ↓lookL, Nat.reduceEqDiff, ↓reduceIte, ints, and_true, true_and, Option.some.injEq])
    rw [ha]
    simp [vcopyA, newC, -List.getElem!_eq_getElem?_getD]
    omega
  · have hlt : k < v.copies.length := by omega
    have hk2 : putAt v.copies N < k := by omega
    have ha := acc_behind hlt hk2
    (refine adraw (envOk _) mixed [⟨false, false, 0⟩, ⟨false, false, 0⟩, ⟨false, false, 0⟩, ⟨false, true, 0⟩, ⟨false, false, 0⟩, ⟨false, false, 0⟩, ⟨false, false, 0⟩, ⟨false, false, 0⟩, ⟨false, false, 0⟩, ⟨false, false, 0⟩, ⟨false, true, 0⟩, ⟨false, false, 0⟩, ⟨false, false, 0⟩] (by kernel_rfl) ?_; show vcOpsD _ _ _ (_ :: _) _ _)
    simp (maxSteps := 4000000) only [↓VP0, ↓VP1, ↓VP2, VQ0, VQ1, VQ2, VQ3, VQ4, VT, ite_self, ite_split, Nat.reduceEqDiff, Nat.reduceAdd, Nat.reduceSub, Nat.reduceMul, Nat.reduceLeDiff, Nat.reduceLT, Nat.reduceBEq, Int.reduceLE, Int.reduceLT, Int.reduceNeg, Int.reduceAdd, Int.reduceSub, Int.reduceToNat, ↓reduceIte, reduceCtorEq, ↓vcopyA]
    repeat' (first | intro _ | refine And.intro ?_ ?_)
    all_goals try (first | omega | (simp only [List.length_map, List.length_cons, List.length_nil, List.length_append, Nat.zero_add]; omega) | exact Int.natCast_nonneg _ | exact Int.le_trans (by decide) (Int.natCast_nonneg _) | exact Nat.le_of_ble_eq_true rfl)
    refine ⟨k + 1, by dsimp only; omega, by dsimp only; omega, ?_⟩
    (simp only [Fits, fitsV, fitsO, fitsL, ↓upd, ↓lookV, ↓lookO, ↓lookL, Nat.reduceEqDiff, ↓reduceIte, ints, and_true, true_and, Option.some.injEq])
    rw [ha]
    simp [vcopyA, newC, -List.getElem!_eq_getElem?_getD]
    omega
  · have ek : k = v.copies.length := by omega
    subst ek
    rw [if_neg (by omega)] at hend
    have e : List.map vcopyA (accL v.copies N v.copies.length) ++ [AV.agg (overlay [AV.int .i64 0, AV.int .i64 0, AV.int .i64 0, AV.int .i64 0] 0 (AV.int .i64 (N : Int)).cells)] = (insL v.copies N).map vcopyA := by
      rw [← hend, List.map_append]; rfl
    rw [e]
    (repeat' (first | intro _ | refine And.intro ?_ ?_ | ((refine ACall.pure (by with_reducible assumption) ?_; try simp (maxSteps := 4000000) only [↓VP0, ↓VP1, ↓VP2, VQ0, VQ1, VQ2, VQ3, VQ4, VT, ite_self, ite_split, Nat.reduceEqDiff, Nat.reduceAdd, Nat.reduceSub, Nat.reduceMul, Nat.reduceLeDiff, Nat.reduceLT, Nat.reduceBEq, Int.reduceLE, Int.reduceLT, Int.reduceNeg, Int.reduceAdd, Int.reduceSub, Int.reduceToNat, ↓reduceIte, reduceCtorEq]); try simp (maxSteps := 4000000) only [↓VP0, ↓VP1, ↓VP2, VQ0, VQ1, VQ2, VQ3, VQ4, VT, ite_self, ite_split, Nat.reduceEqDiff, Nat.reduceAdd, Nat.reduceSub, Nat.reduceMul, Nat.reduceLeDiff, Nat.reduceLT, Nat.reduceBEq, Int.reduceLE, Int.reduceLT, Int.reduceNeg, Int.reduceAdd, Int.reduceSub, Int.reduceToNat, ↓reduceIte, reduceCtorEq, eq_self, decide_true, decide_false, if_true, if_false, not_true_eq_false, List.append_eq]) | (refine VPure.of (by with_reducible assumption) ?_; try simp (maxSteps := 4000000) only [↓VP0, ↓VP1, ↓VP2, VQ0, VQ1, VQ2, VQ3, VQ4, VT, ite_self, ite_split, Nat.reduceEqDiff, Nat.reduceAdd, Nat.reduceSub, Nat.reduceMul, Nat.reduceLeDiff, Nat.reduceLT, Nat.reduceBEq, Int.reduceLE, Int.reduceLT, Int.reduceNeg, Int.reduceAdd, Int.reduceSub, Int.reduceToNat, ↓reduceIte, reduceCtorEq, eq_self, decide_true, decide_false, if_true, if_false, not_true_eq_false, List.append_eq])))
    all_goals try (first | omega | (simp only [List.length_map, List.length_cons, List.length_nil, List.length_append, Nat.zero_add]; omega) | exact Int.natCast_nonneg _ | exact Int.le_trans (by decide) (Int.natCast_nonneg _) | exact Nat.le_of_ble_eq_true rfl)
  · have ek : k = v.copies.length := by omega
    subst ek
    rw [if_pos (by omega)] at hend
    rw [hend]
    (repeat' (first | intro _ | refine And.intro ?_ ?_ | ((refine ACall.pure (by with_reducible assumption) ?_; try simp (maxSteps := 4000000) only [↓VP0, ↓VP1, ↓VP2, VQ0, VQ1, VQ2, VQ3, VQ4, VT, ite_self, ite_split, Nat.reduceEqDiff, Nat.reduceAdd, Nat.reduceSub, Nat.reduceMul, Nat.reduceLeDiff, Nat.reduceLT, Nat.reduceBEq, Int.reduceLE, Int.reduceLT, Int.reduceNeg, Int.reduceAdd, Int.reduceSub, Int.reduceToNat, ↓reduceIte, reduceCtorEq]); try simp (maxSteps := 4000000) only [↓VP0, ↓VP1, ↓VP2, VQ0, VQ1, VQ2, VQ3, VQ4, VT, ite_self, ite_split, Nat.reduceEqDiff, Nat.reduceAdd, Nat.reduceSub, Nat.reduceMul, Nat.reduceLeDiff, Nat.reduceLT, Nat.reduceBEq, Int.reduceLE, Int.reduceLT, Int.reduceNeg, Int.reduceAdd, Int.reduceSub, Int.reduceToNat, ↓reduceIte, reduceCtorEq, eq_self, decide_true, decide_false, if_true, if_false, not_true_eq_false, List.append_eq]) | (refine VPure.of (by with_reducible assumption) ?_; try simp (maxSteps := 4000000) only [↓VP0, ↓VP1, ↓VP2, VQ0, VQ1, VQ2, VQ3, VQ4, VT, ite_self, ite_split, Nat.reduceEqDiff, Nat.reduceAdd, Nat.reduceSub, Nat.reduceMul, Nat.reduceLeDiff, Nat.reduceLT, Nat.reduceBEq, Int.reduceLE, Int.reduceLT, Int.reduceNeg, Int.reduceAdd, Int.reduceSub, Int.reduceToNat, ↓reduceIte, reduceCtorEq, eq_self, decide_true, decide_false, if_true, if_false, not_true_eq_false, List.append_eq])))
    all_goals try (first | omega | (simp only [List.length_map, List.length_cons, List.length_nil, List.length_append, Nat.zero_add]; omega) | exact Int.natCast_nonneg _ | exact Int.le_trans (by decide) (Int.natCast_nonneg _) | exact Nat.le_of_ble_eq_true rfl)

theorem chestNumbers_c (c : RChest) (x : Nat) (hx : x < 256) (hs : namesFit c) :
    PCall Try.prog 15 [chestA c, .int .u8 x] (.bool true) := by
  by_cases h : (checkR c).2.2 = 0
  · obtain ⟨e1, hv⟩ := valid_v h
    rw [e1] at hs
    rw [e1, vchestA_raw]
    exact chestNumbers_ok c.v hv hs x hx
  · exact chestNumbers_bad c hs x h
end Go.Proofs.Ytakkdmdkelbnjaa.Abs

namespace Go.Proofs.Ytakkdmdkelbnjaa
set_option linter.unusedSimpArgs false
open Go Go.RowKit Go.Proofs Abs
set_option maxRecDepth 100000

theorem chestNumbers_types : LawTypes Try.prog Try.f15 [26, 5] 4 5 := by
  refine ⟨by rw [Try.params15], by kernel_rfl, Try.underlying4, laid_ok, fun t h => ?_⟩
  simp only [List.mem_cons, List.not_mem_nil, or_false] at h
  rcases h with rfl | rfl
  · exact plain26
  · exact plain5

theorem chestNumbers_all (xs : List AV) (h : GoodAll Try.prog [26, 5] xs) : ∃ K : AV → Mem → Prop, ACall Try.prog 15 xs (fun _ => .none) K ∧ ∀ r m, K r m → r = .bool true := by
  match xs, h with
  | [a0, a1], ⟨⟨l0, g0, h0⟩, ⟨l1, g1, h1⟩, _⟩ =>
    obtain ⟨c, hc, e0⟩ := open_chest g0
    obtain ⟨x, e1, hx⟩ := open_byte5 g1
    rw [h0, e0, h1, e1]
    exact ⟨_, chestNumbers_c c x hx hc.names _, fun r m h => h.1⟩

theorem chestNumbers_lifted (os : Os) (started : os.Started) (H : Type) (enc : TypeId × Value → H) :
    ReturnsInHanded {} Try.checked os 15 .any (Rows.chestNumbersSpec.pre6 enc Try.prog Try.f15 Rows.chestNumbersRow.domain false) (Rows.chestNumbersSpec.post enc Try.prog Try.f15 false true false false) := by
  refine returnsInHanded_of_change (C := Try.checked) own_ok started (by kernel_rfl) Try.func15
    (ChangeSpec.witness6 (enc := enc) (C := Try.checked) false ⟨#[], #[.agg #[.int .i64 0, .int .i64 0, .slice .none 0 0, .int .i64 0, .slice .none 0 0, .slice .none 0 0], .int .u8 0], []⟩ 8 (by kernel_rfl) (by kernel_rfl) (by kernel_rfl) (by kernel_rfl)) ?_
  intro W base args ds gs before hval hW _ _
  refine law_contract chestNumbers_types rfl (fun ds hds => ?_) chestNumbers_all W base args ds gs before hval hW
  match ds, hds with
  | [d0, d1], _ => rfl

theorem chestNumbers_holds : Rows.ChestNumbersSaid :=
  OpenClaim.holds_of_wide 15 Try.f15 rfl rfl rfl rfl rfl rfl rfl ⟨rfl, rfl, rfl, rfl, rfl⟩ rfl rfl rfl rfl rfl (by kernel_rfl) Try.func15 (by kernel_rfl)
    (of_decide_eq_true (by kernel_rfl)) (by unfold Func.isWrapper; first | (rw [if_pos (by decide +kernel)]; kernel_rfl) | (rw [if_neg (by decide +kernel)]; exact ⟨rfl, rfl⟩))
    (fun os started H enc _ => chestNumbers_lifted os started H enc)
end Go.Proofs.Ytakkdmdkelbnjaa
