/- Lemmas for the statements of this seat (K6): they hold without conditions beyond those that each one states. -/
import Derived.Test.YtakkdmdkelbnjaaK5
/- Laws: chests that are valid. -/
namespace Go.Proofs.Ytakkdmdkelbnjaa.Abs
set_option linter.unusedSimpArgs false
open Go Go.RowKit Go.Proofs

structure VCopy where
  number : Nat
  words : Nat
  facts : Nat
  may : Nat
deriving Inhabited

structure VRule where
  if_ : Nat
  then_ : Nat
deriving Inhabited

structure VChest where
  words : Nat
  facts : Nat
  people : List ByteArray
  last : Nat
  copies : List VCopy
  rules : List VRule

def VCopy.raw (x : VCopy) : RCopy := ⟨x.number, x.words, x.facts, x.may⟩
def VRule.raw (x : VRule) : RRule := ⟨x.if_, x.then_⟩
def VChest.raw (v : VChest) : RChest := ⟨v.words, v.facts, v.people, v.last, v.copies.map VCopy.raw, v.rules.map VRule.raw⟩

def vcopyA (x : VCopy) : AV := .agg [.int .i64 x.number, .int .i64 x.words, .int .i64 x.facts, .int .i64 x.may]
def vruleA (x : VRule) : AV := .agg [.int .i64 x.if_, .int .i64 x.then_]
def vchestL (v : VChest) : List AV := [.int .i64 v.words, .int .i64 v.facts, strs v.people, .int .i64 v.last, .slice 4 (v.copies.map vcopyA), .slice 2 (v.rules.map vruleA)]
def vchestA (v : VChest) : AV := .agg (vchestL v)

theorem vchestL_raw (v : VChest) : chestL v.raw = vchestL v := by
  simp only [chestL, vchestL, VChest.raw, List.map_map]
  rfl
theorem vchestA_raw (v : VChest) : chestA v.raw = vchestA v := by rw [chestA, vchestL_raw]; rfl

structure VOk (v : VChest) : Prop where
  w : 1 ≤ v.words ∧ v.words ≤ 5
  f : 1 ≤ v.facts ∧ v.facts ≤ 6
  l : v.last ≤ 30
  p : v.people.length ≤ 3
  names : (failFrom (nameErr v.people) 0 v.people).2 = 0
  c : v.copies.length ≤ 6
  copy : ∀ x ∈ v.copies, 1 ≤ x.number ∧ x.number ≤ v.last ∧ x.words < 2 ^ v.words ∧ x.facts < 2 ^ v.facts ∧ x.may < 2 ^ v.people.length
  rise : ∀ i, i + 1 < v.copies.length → (v.copies[i]!).number < (v.copies[i + 1]!).number
  r : v.rules.length ≤ 4
  rule : ∀ x ∈ v.rules, 0 < x.if_ ∧ x.if_ < 2 ^ v.facts ∧ x.then_ < v.facts

theorem failFrom_zero {α : Type} {f : Nat → α → Int} : ∀ {l : List α} {k : Nat}, (failFrom f k l).2 = 0 ↔ ∀ i (h : i < l.length), f (k + i) l[i] = 0
  | [], k => by simp [failFrom]
  | x :: xs, k => by
    by_cases hx : f k x = 0
    · rw [failFrom_skip (by simp [hx]), failFrom_zero]
      constructor
      · intro h i hi
        cases i with
        | zero => simpa using hx
        | succ i => have := h i (by simpa using hi); rw [show k + (i + 1) = k + 1 + i by omega]; simpa using this
      · intro h i hi
        have := h (i + 1) (by simpa using hi)
        rw [show k + 1 + i = k + (i + 1) by omega]; simpa using this
    · rw [failFrom_hit hx]
      constructor
      · intro h; exact absurd h hx
      · intro h; have := h 0 (by simp); simp at this; exact absurd this hx

theorem failFrom_zero1 {α : Type} {f : Nat → α → Int} : ∀ {l : List α} {k : Nat}, (failFrom f k l).2 = 0 → failFrom f k l = (0, 0)
  | [], _, _ => rfl
  | x :: xs, k, h => by
    by_cases hx : f k x = 0
    · rw [failFrom_skip (by simp [hx])] at h ⊢; exact failFrom_zero1 h
    · rw [failFrom_hit hx] at h; exact absurd h hx

theorem offP_false {lo hi n : Int} : offP lo hi n = false ↔ lo ≤ n ∧ n ≤ hi := by simp [offP]

theorem copyErr_iff {c : RChest} {w f p : Int} {i : Nat} {x : RCopy} : copyErr c w f p i x = 0 ↔ (1 ≤ x.number ∧ x.number ≤ c.last) ∧ ¬ (0 < i ∧ x.number ≤ (c.copies[i - 1]!).number) ∧ (0 ≤ x.words ∧ x.words ≤ w - 1) ∧ (0 ≤ x.facts ∧ x.facts ≤ f - 1) ∧ (0 ≤ x.may ∧ x.may ≤ p - 1) := by
  unfold copyErr
  by_cases h1 : offP 1 c.last x.number = true
  · rw [if_pos h1]
    constructor
    · intro h; cases h
    · rintro ⟨h, _⟩; rw [offP_false.2 h] at h1; cases h1
  · rw [if_neg h1]
    rw [Bool.not_eq_true] at h1
    by_cases h2 : 0 < i ∧ x.number ≤ (c.copies[i - 1]!).number
    · rw [if_pos h2]
      constructor
      · intro h; cases h
      · rintro ⟨_, h, _⟩; exact absurd h2 h
    · rw [if_neg h2]
      by_cases h3 : (offP 0 (w - 1) x.words || offP 0 (f - 1) x.facts || offP 0 (p - 1) x.may) = true
      · rw [if_pos h3]
        constructor
        · intro h; cases h
        · rintro ⟨_, _, ha, hb, hc⟩; rw [offP_false.2 ha, offP_false.2 hb, offP_false.2 hc] at h3; cases h3
      · rw [if_neg h3]
        simp only [Bool.or_eq_true, not_or, Bool.not_eq_true] at h3
        exact ⟨fun _ => ⟨offP_false.1 h1, h2, offP_false.1 h3.1.1, offP_false.1 h3.1.2, offP_false.1 h3.2⟩, fun _ => rfl⟩

theorem ruleErr_iff {c : RChest} {f : Int} {x : RRule} : ruleErr c f x = 0 ↔ (0 ≤ x.if_ ∧ x.if_ ≤ f - 1) ∧ (0 ≤ x.then_ ∧ x.then_ ≤ c.facts - 1) ∧ ¬ x.if_ = 0 := by
  unfold ruleErr
  by_cases h3 : (offP 0 (f - 1) x.if_ || offP 0 (c.facts - 1) x.then_) = true
  · rw [if_pos h3]
    constructor
    · intro h; cases h
    · rintro ⟨ha, hb, _⟩; rw [offP_false.2 ha, offP_false.2 hb] at h3; cases h3
  · rw [if_neg h3]
    simp only [Bool.or_eq_true, not_or, Bool.not_eq_true] at h3
    by_cases h2 : x.if_ = 0
    · rw [if_pos h2]
      constructor
      · intro h; cases h
      · rintro ⟨_, _, h⟩; exact absurd h2 h
    · rw [if_neg h2]
      exact ⟨fun _ => ⟨offP_false.1 h3.1, offP_false.1 h3.2, h2⟩, fun _ => rfl⟩

theorem checkR_parts {c : RChest} (h : (checkR c).2.2 = 0) : (offP 1 5 c.words || offP 1 6 c.facts || offP 0 30 c.last) = false ∧ c.people.length ≤ 3 ∧ (namesR c).2 = 0 ∧ c.copies.length ≤ 6 ∧ (copiesR c).2 = 0 ∧ c.rules.length ≤ 4 ∧ (rulesR c).2 = 0 := by
  unfold checkR at h
  split at h
  · cases h
  · rename_i h1
    split at h
    · cases h
    · rename_i h2
      split at h
      · rename_i h3; exact absurd h h3
      · rename_i h3
        split at h
        · cases h
        · rename_i h4
          split at h
          · rename_i h5; exact absurd h h5
          · rename_i h5
            split at h
            · cases h
            · rename_i h6
              split at h
              · rename_i h7; exact absurd h h7
              · rename_i h7
                exact ⟨by simpa using h1, by omega, by simpa using h3, by omega, by simpa using h5, by omega, by simpa using h7⟩

theorem checkR_ok {c : RChest} (h : (offP 1 5 c.words || offP 1 6 c.facts || offP 0 30 c.last) = false ∧ c.people.length ≤ 3 ∧ (namesR c).2 = 0 ∧ c.copies.length ≤ 6 ∧ (copiesR c).2 = 0 ∧ c.rules.length ≤ 4 ∧ (rulesR c).2 = 0) : checkR c = (0, 0, 0) := by
  obtain ⟨h1, h2, h3, h4, h5, h6, h7⟩ := h
  rw [checkR, if_neg (by rw [h1]; simp), if_neg (by omega), if_neg (by simp [h3]), if_neg (by omega), if_neg (by simp [h5]), if_neg (by omega), if_neg (by simp [h7])]

theorem copies_get (v : VChest) (i : Nat) (h : i < v.copies.length) : (v.raw.copies[i]!).number = ((v.copies[i]!).number : Int) := by
  have h' : i < v.raw.copies.length := by simpa [VChest.raw] using h
  rw [getD_any h', getD_any h]
  simp [VChest.raw, VCopy.raw]

theorem vok_check {v : VChest} (h : VOk v) : checkR v.raw = (0, 0, 0) := by
  refine checkR_ok ⟨?_, h.p, h.names, by simpa [VChest.raw] using h.c, ?_, by simpa [VChest.raw] using h.r, ?_⟩
  · have h1 := h.w; have h2 := h.f; have h3 := h.l
    simp only [Bool.or_eq_false_iff, offP_false, VChest.raw]
    omega
  · unfold copiesR
    rw [failFrom_zero]
    intro i hi
    have hi' : i < v.copies.length := by simpa [VChest.raw] using hi
    rw [copyErr_iff]
    have hx : v.raw.copies[i] = (v.copies[i]).raw := by simp [VChest.raw]
    obtain ⟨c1, c2, c3, c4, c5⟩ := h.copy _ (List.getElem_mem hi')
    rw [hx]
    simp only [VCopy.raw, Nat.zero_add]
    refine ⟨⟨by omega, by show ((v.copies[i]).number : Int) ≤ (v.last : Int); omega⟩, ?_, ?_, ?_, ?_⟩
    · rintro ⟨q1, q2⟩
      rw [copies_get v (i - 1) (by omega)] at q2
      have := h.rise (i - 1) (by omega)
      rw [show i - 1 + 1 = i by omega, getD_any hi'] at this
      omega
    · show 0 ≤ ((v.copies[i]).words : Int) ∧ ((v.copies[i]).words : Int) ≤ ((2 ^ ((v.words : Nat) : Int).toNat : Nat) : Int) - 1
      rw [Int.toNat_natCast]; omega
    · show 0 ≤ ((v.copies[i]).facts : Int) ∧ ((v.copies[i]).facts : Int) ≤ ((2 ^ ((v.facts : Nat) : Int).toNat : Nat) : Int) - 1
      rw [Int.toNat_natCast]; omega
    · show 0 ≤ ((v.copies[i]).may : Int) ∧ ((v.copies[i]).may : Int) ≤ ((2 ^ ((v.people.length : Nat) : Int).toNat : Nat) : Int) - 1
      rw [Int.toNat_natCast]; omega
  · unfold rulesR
    rw [failFrom_zero]
    intro i hi
    have hi' : i < v.rules.length := by simpa [VChest.raw] using hi
    rw [ruleErr_iff]
    have hx : v.raw.rules[i] = (v.rules[i]).raw := by simp [VChest.raw]
    obtain ⟨c1, c2, c3⟩ := h.rule _ (List.getElem_mem hi')
    rw [hx]
    simp only [VRule.raw]
    refine ⟨?_, ?_, by omega⟩
    · show 0 ≤ ((v.rules[i]).if_ : Int) ∧ ((v.rules[i]).if_ : Int) ≤ ((2 ^ ((v.facts : Nat) : Int).toNat : Nat) : Int) - 1
      rw [Int.toNat_natCast]; omega
    · show 0 ≤ ((v.rules[i]).then_ : Int) ∧ ((v.rules[i]).then_ : Int) ≤ (v.facts : Int) - 1
      omega

def RCopy.v (x : RCopy) : VCopy := ⟨x.number.toNat, x.words.toNat, x.facts.toNat, x.may.toNat⟩
def RRule.v (x : RRule) : VRule := ⟨x.if_.toNat, x.then_.toNat⟩
def RChest.v (c : RChest) : VChest := ⟨c.words.toNat, c.facts.toNat, c.people, c.last.toNat, c.copies.map RCopy.v, c.rules.map RRule.v⟩

theorem valid_v {c : RChest} (h : (checkR c).2.2 = 0) : c = c.v.raw ∧ VOk c.v := by
  obtain ⟨h1, h2, h3, h4, h5, h6, h7⟩ := checkR_parts h
  simp only [Bool.or_eq_false_iff, offP_false] at h1
  unfold copiesR at h5
  rw [failFrom_zero] at h5
  unfold rulesR at h7
  rw [failFrom_zero] at h7
  have hc : ∀ i (hi : i < c.copies.length), _ := fun i hi => copyErr_iff.1 (h5 i hi)
  have hr : ∀ i (hi : i < c.rules.length), _ := fun i hi => ruleErr_iff.1 (h7 i hi)
  have e : c = c.v.raw := by
    obtain ⟨w, f, p, l, cs, rs⟩ := c
    simp only [RChest.v, VChest.raw, List.map_map] at *
    have e1 : cs.map (VCopy.raw ∘ RCopy.v) = cs := by
      conv => rhs; rw [← List.map_id cs]
      refine List.map_congr_left fun x hx => ?_
      obtain ⟨i, hi, rfl⟩ := List.mem_iff_getElem.1 hx
      obtain ⟨q1, _, q3, q4, q5⟩ := hc i hi
      show RCopy.mk _ _ _ _ = cs[i]
      rw [show cs[i] = ⟨(cs[i]).number, (cs[i]).words, (cs[i]).facts, (cs[i]).may⟩ from rfl]
      simp only [RCopy.v, RCopy.mk.injEq]
      omega
    have e2 : rs.map (VRule.raw ∘ RRule.v) = rs := by
      conv => rhs; rw [← List.map_id rs]
      refine List.map_congr_left fun x hx => ?_
      obtain ⟨i, hi, rfl⟩ := List.mem_iff_getElem.1 hx
      obtain ⟨q1, q2, _⟩ := hr i hi
      show RRule.mk _ _ = rs[i]
      rw [show rs[i] = ⟨(rs[i]).if_, (rs[i]).then_⟩ from rfl]
      simp only [RRule.v, RRule.mk.injEq]
      omega
    rw [e1, e2]
    simp only [RChest.mk.injEq, and_true, true_and]
    omega
  refine ⟨e, ?_⟩
  have pwn : ∀ n : Int, pw n = ((2 ^ n.toNat : Nat) : Int) := fun _ => rfl
  refine ⟨?_, ?_, ?_, h2, h3, by simpa [RChest.v] using h4, ?_, ?_, by simpa [RChest.v] using h6, ?_⟩
  · simp only [RChest.v]; omega
  · simp only [RChest.v]; omega
  · simp only [RChest.v]; omega
  · intro x hx
    simp only [RChest.v, List.mem_map] at hx
    obtain ⟨y, hy, rfl⟩ := hx
    obtain ⟨i, hi, rfl⟩ := List.mem_iff_getElem.1 hy
    obtain ⟨q1, _, q3, q4, q5⟩ := hc i hi
    rw [pwn] at q3 q4 q5
    simp only [RChest.v, RCopy.v]
    rw [Int.toNat_natCast] at q5
    omega
  · intro i hi
    simp only [RChest.v, List.length_map] at hi
    have hg : ∀ j (hj : j < c.copies.length), (c.v.copies[j]!).number = (c.copies[j]).number.toNat := fun j hj => by
      rw [getD_any (by simpa [RChest.v] using hj)]; simp [RChest.v, RCopy.v]
    rw [hg i (by omega), hg (i + 1) hi]
    obtain ⟨q1, _⟩ := hc i (by omega)
    obtain ⟨q3, q4, _⟩ := hc (i + 1) hi
    rw [show 0 + (i + 1) - 1 = i by omega, getD_any (by omega : i < c.copies.length)] at q4
    omega
  · intro x hx
    simp only [RChest.v, List.mem_map] at hx
    obtain ⟨y, hy, rfl⟩ := hx
    obtain ⟨i, hi, rfl⟩ := List.mem_iff_getElem.1 hy
    obtain ⟨q1, q2, q3⟩ := hr i hi
    rw [pwn] at q1
    simp only [RChest.v, RRule.v]
    omega
end Go.Proofs.Ytakkdmdkelbnjaa.Abs

/- Contracts: copies that somebody has, words that copies have. -/
namespace Go.Proofs.Ytakkdmdkelbnjaa.Abs
set_option linter.unusedSimpArgs false
set_option maxHeartbeats 4000000
set_option maxRecDepth 100000
open Go Go.RowKit Go.Proofs

/-- The set of the numbers below one for which something holds. -/
def setOf (f : Nat → Bool) : Nat → Nat
  | 0 => 0
  | n + 1 => if f n = true then setOf f n ||| 2 ^ n else setOf f n

theorem setOf_lt (f : Nat → Bool) : ∀ n, setOf f n < 2 ^ n
  | 0 => by simp [setOf]
  | n + 1 => by
    have h := setOf_lt f n
    have h1 : 2 ^ n < 2 ^ (n + 1) := Nat.pow_lt_pow_right (by decide) (by omega)
    unfold setOf
    split
    · exact Nat.or_lt_two_pow (by omega) h1
    · omega

theorem setOf_bit (f : Nat → Bool) (i : Nat) : ∀ n, (setOf f n).testBit i = (decide (i < n) && f i)
  | 0 => by simp [setOf]
  | n + 1 => by
    unfold setOf
    split
    · rename_i h
      rw [Nat.testBit_or, setOf_bit f i n, Nat.testBit_two_pow]
      by_cases e : n = i
      · subst e; simp [h]
      · have h1 : (i < n) ↔ (i < n + 1) := by omega
        simp [e, h1]
    · rename_i h
      rw [setOf_bit f i n]
      by_cases e : n = i
      · subst e; simp [h]
      · have h1 : (i < n) ↔ (i < n + 1) := by omega
        simp [h1]

/-- Has a set all of another one? -/
def subS (a b : Nat) : Bool := decide (natAndNot a b = 0)

theorem natAndNot_bit (a b i : Nat) : (natAndNot a b).testBit i = (a.testBit i && !b.testBit i) := by
  unfold natAndNot
  rw [Nat.testBit_xor, Nat.testBit_and]
  cases a.testBit i <;> cases b.testBit i <;> rfl

theorem subS_iff {a b : Nat} : subS a b = true ↔ ∀ i, a.testBit i = true → b.testBit i = true := by
  unfold subS
  rw [decide_eq_true_eq]
  constructor
  · intro h i hi
    have := natAndNot_bit a b i
    rw [h, hi] at this
    simpa using this
  · intro h
    refine Nat.eq_of_testBit_eq fun i => ?_
    rw [natAndNot_bit, Nat.zero_testBit]
    cases ha : a.testBit i
    · rfl
    · rw [h i ha]; rfl

/-- The copies that somebody may see. -/
def viewS (v : VChest) (p : Nat) : Nat := if p < v.people.length then setOf (fun i => (v.copies[i]!).may.testBit p) v.copies.length else 0

/-- What is looked at: the chest, the views, what is told. -/
def seenL (v : VChest) (b : Nat) : List AV := [.int .i64 v.words, .int .i64 v.facts, .slice 1 (v.people.map AV.str), .int .i64 v.last, .slice 4 (v.copies.map vcopyA), .slice 2 (v.rules.map vruleA),
  .int .i64 (viewS v 0), .int .i64 (viewS v 1), .int .i64 (viewS v 2), .map b]

/-- The copies of somebody that have all words of a set. -/
def findS (v : VChest) (p ws : Nat) : Nat := setOf (fun i => (viewS v p).testBit i && subS ws (v.copies[i]!).words) v.copies.length

theorem dec_cast (n : Nat) : decide ((n : Int) = 0) = decide (n = 0) := by rw [decide_eq_decide]; omega

theorem worded_c (v : VChest) (b at_ ws : Nat) (hv : VOk v) (ha : at_ < v.copies.length) (hw : ws < 2 ^ 60) : PCall Try.prog 88 [.eptr (seenL v b), .int .i64 at_, .int .i64 ws] (.bool (subS ws (v.copies[at_]!).words)) := by
  have hx : (v.copies[at_]!).words < 2 ^ 60 := by
    obtain ⟨_, _, h3, _⟩ := hv.copy _ (List.getElem_mem ha)
    rw [getD_any ha]
    have := hv.w
    exact Nat.lt_of_lt_of_le h3 (Nat.pow_le_pow_right (by decide) (by omega))
  intro m
  simp only [seenL]
  (refine acall_intro (E := env fun _ => .imm) (envOk _) rfl Try.func88 rfl Try.call88 (by kernel_rfl) (by simp [Try.ntmps88]) ?_; simp only [Try.f88];  simp (maxSteps := 4000000) only [↓VP0, ↓VP1, ↓VP2, VQ0, VQ1, VQ2, VQ3, VQ4, VT, ite_self, ite_split, Nat.reduceEqDiff, Nat.reduceAdd, Nat.reduceSub, Nat.reduceMul, Nat.reduceLeDiff, Nat.reduceLT, Nat.reduceBEq, Int.reduceLE, Int.reduceLT, Int.reduceNeg, Int.reduceAdd, Int.reduceSub, Int.reduceToNat, ↓reduceIte, reduceCtorEq])
  simp (maxSteps := 4000000) only [↓VP0, ↓VP1, ↓VP2, VQ0, VQ1, VQ2, VQ3, VQ4, VT, ite_self, ite_split, Nat.reduceEqDiff, Nat.reduceAdd, Nat.reduceSub, Nat.reduceMul, Nat.reduceLeDiff, Nat.reduceLT, Nat.reduceBEq, Int.reduceLE, Int.reduceLT, Int.reduceNeg, Int.reduceAdd, Int.reduceSub, Int.reduceToNat, ↓reduceIte, reduceCtorEq, vcopyA]
  repeat' (first | intro _ | refine And.intro ?_ ?_)
  all_goals try (first | omega | (simp only [List.length_map, List.length_cons, List.length_nil, List.length_append, Nat.zero_add]; omega) | exact Int.natCast_nonneg _ | exact Int.le_trans (by decide) (Int.natCast_nonneg _) | exact Nat.le_of_ble_eq_true rfl)
  rw [dec_cast]; rfl

theorem viewS_lt (v : VChest) (hv : VOk v) (p : Nat) : viewS v p < 2 ^ 6 := by
  unfold viewS
  split
  · exact Nat.lt_of_lt_of_le (setOf_lt _ _) (Nat.pow_le_pow_right (by decide) hv.c)
  · exact Nat.pow_pos (by decide)

theorem view_drop (v : VChest) (b p : Nat) (hp : p < 3) : List.drop p [AV.int .i64 (viewS v 0), AV.int .i64 (viewS v 1), AV.int .i64 (viewS v 2), AV.map b] = AV.int .i64 (viewS v p) :: List.drop (p + 1) [AV.int .i64 (viewS v 0), AV.int .i64 (viewS v 1), AV.int .i64 (viewS v 2), AV.map b] := by
  have hpp : p = 0 ∨ p = 1 ∨ p = 2 := by omega
  rcases hpp with rfl | rfl | rfl <;> rfl

theorem find_c (v : VChest) (b p ws : Nat) (hv : VOk v) (hp : p < v.people.length) (hw : ws < 2 ^ 60) : PCall Try.prog 63 [.eptr (seenL v b), .int .i64 p, .int .i64 ws] (.int .i64 (findS v p ws)) := by
  intro m
  have h3 := hv.p
  have hc6 := hv.c
  have hvp := viewS_lt v hv p
  have hdr := view_drop v b p (by omega)
  have hwc : ∀ k, k < v.copies.length → PCall Try.prog 88 [.eptr (seenL v b), .int .i64 k, .int .i64 ws] (.bool (subS ws (v.copies[k]!).words)) := fun k hk => worded_c v b k ws hv hk hw
  simp only [seenL] at hwc ⊢
  (refine acall_intro (E := env fun _ => .imm) (envOk _) rfl Try.func63 rfl Try.call63 (by kernel_rfl) (by simp [Try.ntmps63]) ?_; simp only [Try.f63];  simp (maxSteps := 4000000) only [↓VP0, ↓VP1, ↓VP2, VQ0, VQ1, VQ2, VQ3, VQ4, VT, ite_self, ite_split, Nat.reduceEqDiff, Nat.reduceAdd, Nat.reduceSub, Nat.reduceMul, Nat.reduceLeDiff, Nat.reduceLT, Nat.reduceBEq, Int.reduceLE, Int.reduceLT, Int.reduceNeg, Int.reduceAdd, Int.reduceSub, Int.reduceToNat, ↓reduceIte, reduceCtorEq])
  repeat' (first | intro _ | refine And.intro ?_ ?_)
  all_goals try (first | omega | (simp only [List.length_map, List.length_cons, List.length_nil, List.length_append, Nat.zero_add]; omega) | exact Int.natCast_nonneg _ | exact Int.le_trans (by decide) (Int.natCast_nonneg _) | exact Nat.le_of_ble_eq_true rfl)
  refine aloop (envOk _) (fun k : Nat => ⟨[(0, .v (.eptr (seenL v b))), (1, .v (.int .i64 p)), (2, .v (.int .i64 ws)), (6, .v (.int .i64 (setOf (fun i => (viewS v p).testBit i && subS ws (v.copies[i]!).words) k))), (7, .v (.fn (.func 88) [.eptr (seenL v b)] [])), (16, .v (.int .i64 v.copies.length)), (17, .v (.int .i64 k))], [], [], m⟩)
    (fun k => k ≤ v.copies.length) (fun k => v.copies.length - k) 0 (fun _ => rfl) (by simp) (by simp only [seenL]; (simp only [Fits, fitsV, fitsO, fitsL, ↓upd, ↓lookV, ↓lookO, ↓lookL, Nat.reduceEqDiff, ↓reduceIte, ints, and_true, true_and, Option.some.injEq]); simp [setOf]) ?_
  intro k hk
  simp only [seenL]
  have hs := setOf_lt (fun i => (viewS v p).testBit i && subS ws (v.copies[i]!).words) k
  have hle : viewS v p / 2 ^ k ≤ viewS v p := Nat.div_le_self _ _
  have hk6 : 2 ^ k ≤ 2 ^ 6 := Nat.pow_le_pow_right (by decide) (by omega)
  simp (maxSteps := 4000000) only [↓VP0, ↓VP1, ↓VP2, VQ0, VQ1, VQ2, VQ3, VQ4, VT, ite_self, ite_split, Nat.reduceEqDiff, Nat.reduceAdd, Nat.reduceSub, Nat.reduceMul, Nat.reduceLeDiff, Nat.reduceLT, Nat.reduceBEq, Int.reduceLE, Int.reduceLT, Int.reduceNeg, Int.reduceAdd, Int.reduceSub, Int.reduceToNat, ↓reduceIte, reduceCtorEq, hdr]
  repeat' (first | intro _ | refine And.intro ?_ ?_)
  all_goals try (first | omega | (simp only [List.length_map, List.length_cons, List.length_nil, List.length_append, Nat.zero_add]; omega) | exact Int.natCast_nonneg _ | exact Int.le_trans (by decide) (Int.natCast_nonneg _) | exact Nat.le_of_ble_eq_true rfl)
  · have hb : (viewS v p).testBit k = true := by assumption
    (refine ACall.pure (hwc k (by omega)) ?_; try simp (maxSteps := 4000000) only [↓VP0, ↓VP1, ↓VP2, VQ0, VQ1, VQ2, VQ3, VQ4, VT, ite_self, ite_split, Nat.reduceEqDiff, Nat.reduceAdd, Nat.reduceSub, Nat.reduceMul, Nat.reduceLeDiff, Nat.reduceLT, Nat.reduceBEq, Int.reduceLE, Int.reduceLT, Int.reduceNeg, Int.reduceAdd, Int.reduceSub, Int.reduceToNat, ↓reduceIte, reduceCtorEq])
    repeat' (first | intro _ | refine And.intro ?_ ?_)
    all_goals try (first | omega | (simp only [List.length_map, List.length_cons, List.length_nil, List.length_append, Nat.zero_add]; omega) | exact Int.natCast_nonneg _ | exact Int.le_trans (by decide) (Int.natCast_nonneg _) | exact Nat.le_of_ble_eq_true rfl)
    · have h2 : subS ws (v.copies[k]!).words = true := by assumption
      (refine ⟨k + 1, by first | omega | (dsimp only; omega), by dsimp only; omega, ?_⟩; (simp only [Fits, fitsV, fitsO, fitsL, ↓upd, ↓lookV, ↓lookO, ↓lookL, Nat.reduceEqDiff, ↓reduceIte, ints, and_true, true_and, Option.some.injEq]); try simp [setOf, hb, h2, -List.getElem!_eq_getElem?_getD])
    · have h2 : ¬ subS ws (v.copies[k]!).words = true := by assumption
      (refine ⟨k + 1, by first | omega | (dsimp only; omega), by dsimp only; omega, ?_⟩; (simp only [Fits, fitsV, fitsO, fitsL, ↓upd, ↓lookV, ↓lookO, ↓lookL, Nat.reduceEqDiff, ↓reduceIte, ints, and_true, true_and, Option.some.injEq]); try simp [setOf, hb, h2, -List.getElem!_eq_getElem?_getD])
  · have hb : ¬ (viewS v p).testBit k = true := by assumption
    (refine ⟨k + 1, by first | omega | (dsimp only; omega), by dsimp only; omega, ?_⟩; (simp only [Fits, fitsV, fitsO, fitsL, ↓upd, ↓lookV, ↓lookO, ↓lookL, Nat.reduceEqDiff, ↓reduceIte, ints, and_true, true_and, Option.some.injEq]); try simp [setOf, hb])
  · rw [show k = v.copies.length by omega, findS]
end Go.Proofs.Ytakkdmdkelbnjaa.Abs

/- Contracts: the reference's lists of copies. -/
namespace Go.Proofs.Ytakkdmdkelbnjaa.Abs
set_option linter.unusedSimpArgs false
set_option maxHeartbeats 4000000
set_option maxRecDepth 100000
open Go Go.RowKit Go.Proofs

theorem bitI_nat (n : Nat) (i : Int) : bitI n i = n.testBit i.toNat := by
  unfold bitI
  rw [natDivPow, Nat.testBit_eq_decide_div_mod_eq, decide_eq_decide]
  omega

theorem bitN_c (n : Nat) (i : Int) (hn : n < 2 ^ 62) (hi : i ≤ 9223372036854775807) : PCall Try.prog 39 [.int .i64 n, .int .i64 i] (.bool (n.testBit i.toNat)) := by
  have := bit_c n i (by omega) (by omega) hi
  rwa [bitI_nat] at this

/-- Has a copy all words of a list? -/
def wordedB (x : VCopy) (l : List Int) : Bool := l.all fun w => x.words.testBit w.toNat

theorem refworded_c (x : VCopy) (l : List Int) (hx : x.words < 2 ^ 62) (hl : ∀ w ∈ l, w ≤ 9223372036854775807) : PCall Try.prog 89 [vcopyA x, ints l] (.bool (wordedB x l)) := by
  intro m
  simp only [vcopyA]
  (refine acall_intro (E := env fun _ => .imm) (envOk _) rfl Try.func89 rfl Try.call89 (by kernel_rfl) (by simp [Try.ntmps89]) ?_; simp only [Try.f89];  simp (maxSteps := 4000000) only [↓VP0, ↓VP1, ↓VP2, VQ0, VQ1, VQ2, VQ3, VQ4, VT, ite_self, ite_split, Nat.reduceEqDiff, Nat.reduceAdd, Nat.reduceSub, Nat.reduceMul, Nat.reduceLeDiff, Nat.reduceLT, Nat.reduceBEq, Int.reduceLE, Int.reduceLT, Int.reduceNeg, Int.reduceAdd, Int.reduceSub, Int.reduceToNat, ↓reduceIte, reduceCtorEq])
  refine aloop (envOk _) (fun k : Nat => ⟨[(1, .v (ints l)), (2, .v (.eptr [.int .i64 x.number, .int .i64 x.words, .int .i64 x.facts, .int .i64 x.may])), (5, .v (.bool ((l.take k).all fun w => x.words.testBit w.toNat))), (6, .v (.int .i64 k))], [], [], m⟩)
    (fun k => k ≤ l.length) (fun k => l.length - k) 0 (fun _ => rfl) (by simp) (by (simp only [Fits, fitsV, fitsO, fitsL, ↓upd, ↓lookV, ↓lookO, ↓lookL, Nat.reduceEqDiff, ↓reduceIte, ints, and_true, true_and, Option.some.injEq]); simp) ?_
  intro k hk
  simp (maxSteps := 4000000) only [↓VP0, ↓VP1, ↓VP2, VQ0, VQ1, VQ2, VQ3, VQ4, VT, ite_self, ite_split, Nat.reduceEqDiff, Nat.reduceAdd, Nat.reduceSub, Nat.reduceMul, Nat.reduceLeDiff, Nat.reduceLT, Nat.reduceBEq, Int.reduceLE, Int.reduceLT, Int.reduceNeg, Int.reduceAdd, Int.reduceSub, Int.reduceToNat, ↓reduceIte, reduceCtorEq]
  repeat' (first | intro _ | refine And.intro ?_ ?_)
  all_goals try (first | omega | (simp only [List.length_map, List.length_cons, List.length_nil, List.length_append, Nat.zero_add]; omega) | exact Int.natCast_nonneg _ | exact Int.le_trans (by decide) (Int.natCast_nonneg _) | exact Nat.le_of_ble_eq_true rfl)
  · have hlt : k < l.length := by omega
    have e1 : l[k]! = l[k] := getD_idx hlt
    have e2 : (l.take (k + 1)).all (fun w => x.words.testBit w.toNat) = ((l.take k).all (fun w => x.words.testBit w.toNat) && x.words.testBit (l[k]!).toNat) := by
      rw [List.take_succ_eq_append_getElem hlt, List.all_append, e1]; simp
    have hb := bitN_c x.words l[k]! hx (by rw [e1]; exact hl _ (List.getElem_mem hlt))
    (refine adraw (by first | exact envOk _ | exact envCOk _ _ _) mixed [⟨false, false, 0⟩, ⟨false, false, 0⟩, ⟨false, false, 0⟩, ⟨false, false, 0⟩, ⟨false, false, 0⟩, ⟨false, false, 0⟩, ⟨false, false, 0⟩, ⟨false, false, 0⟩, ⟨false, false, 0⟩, ⟨false, false, 0⟩, ⟨false, false, 0⟩] (by kernel_rfl) ?_; show vcOpsD _ _ _ (_ :: _) _ _)
    simp (maxSteps := 4000000) only [↓VP0, ↓VP1, ↓VP2, VQ0, VQ1, VQ2, VQ3, VQ4, VT, ite_self, ite_split, Nat.reduceEqDiff, Nat.reduceAdd, Nat.reduceSub, Nat.reduceMul, Nat.reduceLeDiff, Nat.reduceLT, Nat.reduceBEq, Int.reduceLE, Int.reduceLT, Int.reduceNeg, Int.reduceAdd, Int.reduceSub, Int.reduceToNat, ↓reduceIte, reduceCtorEq]
    repeat' (first | intro _ | refine And.intro ?_ ?_)
    all_goals try (first | omega | (simp only [List.length_map, List.length_cons, List.length_nil, List.length_append, Nat.zero_add]; omega) | exact Int.natCast_nonneg _ | exact Int.le_trans (by decide) (Int.natCast_nonneg _) | exact Nat.le_of_ble_eq_true rfl)
    · have h1 : (l.take k).all (fun w => x.words.testBit w.toNat) = true := by assumption
      (refine ⟨_, hb, ?_⟩; try simp (maxSteps := 4000000) only [↓VP0, ↓VP1, ↓VP2, VQ0, VQ1, VQ2, VQ3, VQ4, VT, ite_self, ite_split, Nat.reduceEqDiff, Nat.reduceAdd, Nat.reduceSub, Nat.reduceMul, Nat.reduceLeDiff, Nat.reduceLT, Nat.reduceBEq, Int.reduceLE, Int.reduceLT, Int.reduceNeg, Int.reduceAdd, Int.reduceSub, Int.reduceToNat, ↓reduceIte, reduceCtorEq])
      repeat' (first | intro _ | refine And.intro ?_ ?_)
      all_goals try (first | omega | (simp only [List.length_map, List.length_cons, List.length_nil, List.length_append, Nat.zero_add]; omega) | exact Int.natCast_nonneg _ | exact Int.le_trans (by decide) (Int.natCast_nonneg _) | exact Nat.le_of_ble_eq_true rfl)
      refine ⟨k + 1, by dsimp only; omega, by dsimp only; omega, ?_⟩
      (simp only [Fits, fitsV, fitsO, fitsL, ↓upd, ↓lookV, ↓lookO, ↓lookL, Nat.reduceEqDiff, ↓reduceIte, ints, and_true, true_and, Option.some.injEq])
      rw [e2, h1]; simp
    · have h1 : ¬ (l.take k).all (fun w => x.words.testBit w.toNat) = true := by assumption
      rw [Bool.not_eq_true] at h1
      refine ⟨k + 1, by dsimp only; omega, by dsimp only; omega, ?_⟩
      (simp only [Fits, fitsV, fitsO, fitsL, ↓upd, ↓lookV, ↓lookO, ↓lookL, Nat.reduceEqDiff, ↓reduceIte, ints, and_true, true_and, Option.some.injEq])
      rw [e2, h1]; simp
  · rw [wordedB, List.take_of_length_le (by omega : l.length ≤ k)]

/-- The numbers of all copies. -/
def numbersL (v : VChest) : List Int := v.copies.map fun x => (x.number : Int)

theorem numbers_c (v : VChest) (hv : VOk v) : PCall Try.prog 59 [vchestA v] (ints (numbersL v)) := by
  intro m
  have hc := hv.c
  simp only [vchestA, vchestL, strs]
  (refine acall_intro (E := env fun _ => .imm) (envOk _) rfl Try.func59 rfl Try.call59 (by kernel_rfl) (by simp [Try.ntmps59]) ?_; simp only [Try.f59];  simp (maxSteps := 4000000) only [↓VP0, ↓VP1, ↓VP2, VQ0, VQ1, VQ2, VQ3, VQ4, VT, ite_self, ite_split, Nat.reduceEqDiff, Nat.reduceAdd, Nat.reduceSub, Nat.reduceMul, Nat.reduceLeDiff, Nat.reduceLT, Nat.reduceBEq, Int.reduceLE, Int.reduceLT, Int.reduceNeg, Int.reduceAdd, Int.reduceSub, Int.reduceToNat, ↓reduceIte, reduceCtorEq])
  refine aloop (envOk _) (fun k : Nat => ⟨[(1, .v (.eptr [.int .i64 v.words, .int .i64 v.facts, .slice 1 (v.people.map AV.str), .int .i64 v.last, .slice 4 (v.copies.map vcopyA), .slice 2 (v.rules.map vruleA)])), (3, .v (ints ((v.copies.take k).map fun x => (x.number : Int)))), (4, .v (.int .i64 k))], [3], [], m⟩)
    (fun k => k ≤ v.copies.length) (fun k => v.copies.length - k) 0 (fun _ => rfl) (by simp) (by (simp only [Fits, fitsV, fitsO, fitsL, ↓upd, ↓lookV, ↓lookO, ↓lookL, Nat.reduceEqDiff, ↓reduceIte, ints, and_true, true_and, Option.some.injEq]); simp) ?_
  intro k hk
  have hlen : ((v.copies.take k).map fun x => (x.number : Int)).length ≤ k := by rw [List.length_map, List.length_take]; omega
  have htk : (v.copies.take k).length ≤ k := by rw [List.length_take]; omega
  simp (maxSteps := 4000000) only [↓VP0, ↓VP1, ↓VP2, VQ0, VQ1, VQ2, VQ3, VQ4, VT, ite_self, ite_split, Nat.reduceEqDiff, Nat.reduceAdd, Nat.reduceSub, Nat.reduceMul, Nat.reduceLeDiff, Nat.reduceLT, Nat.reduceBEq, Int.reduceLE, Int.reduceLT, Int.reduceNeg, Int.reduceAdd, Int.reduceSub, Int.reduceToNat, ↓reduceIte, reduceCtorEq, vcopyA]
  repeat' (first | intro _ | refine And.intro ?_ ?_)
  all_goals try (first | omega | (simp only [List.length_map, List.length_cons, List.length_nil, List.length_append, Nat.zero_add]; omega) | exact Int.natCast_nonneg _ | exact Int.le_trans (by decide) (Int.natCast_nonneg _) | exact Nat.le_of_ble_eq_true rfl)
  · have hlt : k < v.copies.length := by omega
    have e1 : v.copies[k]! = v.copies[k] := getD_any hlt
    have e2 : v.copies.take (k + 1) = v.copies.take k ++ [v.copies[k]] := List.take_succ_eq_append_getElem hlt
    (refine ⟨k + 1, by first | omega | (dsimp only; omega), by dsimp only; omega, ?_⟩; (simp only [Fits, fitsV, fitsO, fitsL, ↓upd, ↓lookV, ↓lookO, ↓lookL, Nat.reduceEqDiff, ↓reduceIte, ints, and_true, true_and, Option.some.injEq]); try simp [-List.take_append_getElem, e1, e2])
  · rw [numbersL, List.take_of_length_le (by omega : v.copies.length ≤ k)]

/-- The indices of somebody's copies. -/
def ownTo (v : VChest) (p : Int) (n : Nat) : List Int := ((List.range n).filter fun i => (v.copies[i]!).may.testBit p.toNat).map fun (i : Nat) => (i : Int)
def ownL (v : VChest) (p : Int) : List Int := ownTo v p v.copies.length

theorem ownTo_succ (v : VChest) (p : Int) (n : Nat) : ownTo v p (n + 1) = if (v.copies[n]!).may.testBit p.toNat = true then ownTo v p n ++ [(n : Int)] else ownTo v p n := by
  unfold ownTo
  rw [List.range_succ, List.filter_append, List.map_append]
  by_cases h : (v.copies[n]!).may.testBit p.toNat
  · rw [if_pos h, List.filter_cons_of_pos (by exact h)]; rfl
  · rw [if_neg h, List.filter_cons_of_neg (by exact h)]; simp

theorem ownTo_length (v : VChest) (p : Int) (n : Nat) : (ownTo v p n).length ≤ n := by
  unfold ownTo
  rw [List.length_map]
  exact Nat.le_trans (List.length_filter_le _ _) (by simp)

theorem may_lt (v : VChest) (hv : VOk v) {k : Nat} (h : k < v.copies.length) : (v.copies[k]!).may < 2 ^ 62 ∧ (v.copies[k]!).words < 2 ^ 62 ∧ (v.copies[k]!).facts < 2 ^ 62 := by
  obtain ⟨_, _, h3, h4, h5⟩ := hv.copy _ (List.getElem_mem h)
  rw [getD_any h]
  have hw := hv.w
  have hf := hv.f
  have hp := hv.p
  exact ⟨Nat.lt_of_lt_of_le h5 (Nat.pow_le_pow_right (by decide) (by omega)), Nat.lt_of_lt_of_le h3 (Nat.pow_le_pow_right (by decide) (by omega)), Nat.lt_of_lt_of_le h4 (Nat.pow_le_pow_right (by decide) (by omega))⟩

theorem own_c (v : VChest) (hv : VOk v) (p : Int) (hp : p ≤ 9223372036854775807) : PCall Try.prog 72 [vchestA v, .int .i64 p] (ints (ownL v p)) := by
  intro m
  have hc := hv.c
  simp only [vchestA, vchestL, strs]
  (refine acall_intro (E := env fun _ => .imm) (envOk _) rfl Try.func72 rfl Try.call72 (by kernel_rfl) (by simp [Try.ntmps72]) ?_; simp only [Try.f72];  simp (maxSteps := 4000000) only [↓VP0, ↓VP1, ↓VP2, VQ0, VQ1, VQ2, VQ3, VQ4, VT, ite_self, ite_split, Nat.reduceEqDiff, Nat.reduceAdd, Nat.reduceSub, Nat.reduceMul, Nat.reduceLeDiff, Nat.reduceLT, Nat.reduceBEq, Int.reduceLE, Int.reduceLT, Int.reduceNeg, Int.reduceAdd, Int.reduceSub, Int.reduceToNat, ↓reduceIte, reduceCtorEq])
  refine aloop (envOk _) (fun k : Nat => ⟨[(1, .v (.int .i64 p)), (2, .v (.eptr [.int .i64 v.words, .int .i64 v.facts, .slice 1 (v.people.map AV.str), .int .i64 v.last, .slice 4 (v.copies.map vcopyA), .slice 2 (v.rules.map vruleA)])), (5, .v (ints (ownTo v p k))), (6, .v (.int .i64 k))], [5], [], m⟩)
    (fun k => k ≤ v.copies.length) (fun k => v.copies.length - k) 0 (fun _ => rfl) (by simp) (by (simp only [Fits, fitsV, fitsO, fitsL, ↓upd, ↓lookV, ↓lookO, ↓lookL, Nat.reduceEqDiff, ↓reduceIte, ints, and_true, true_and, Option.some.injEq]); simp [ownTo]) ?_
  intro k hk
  have hlen := ownTo_length v p k
  simp (maxSteps := 4000000) only [↓VP0, ↓VP1, ↓VP2, VQ0, VQ1, VQ2, VQ3, VQ4, VT, ite_self, ite_split, Nat.reduceEqDiff, Nat.reduceAdd, Nat.reduceSub, Nat.reduceMul, Nat.reduceLeDiff, Nat.reduceLT, Nat.reduceBEq, Int.reduceLE, Int.reduceLT, Int.reduceNeg, Int.reduceAdd, Int.reduceSub, Int.reduceToNat, ↓reduceIte, reduceCtorEq, vcopyA]
  repeat' (first | intro _ | refine And.intro ?_ ?_)
  all_goals try (first | omega | (simp only [List.length_map, List.length_cons, List.length_nil, List.length_append, Nat.zero_add]; omega) | exact Int.natCast_nonneg _ | exact Int.le_trans (by decide) (Int.natCast_nonneg _) | exact Nat.le_of_ble_eq_true rfl)
  · have hlt : k < v.copies.length := by omega
    have hb := bitN_c (v.copies[k]!).may p (may_lt v hv hlt).1 hp
    (refine ACall.pure (hb) ?_; try simp (maxSteps := 4000000) only [↓VP0, ↓VP1, ↓VP2, VQ0, VQ1, VQ2, VQ3, VQ4, VT, ite_self, ite_split, Nat.reduceEqDiff, Nat.reduceAdd, Nat.reduceSub, Nat.reduceMul, Nat.reduceLeDiff, Nat.reduceLT, Nat.reduceBEq, Int.reduceLE, Int.reduceLT, Int.reduceNeg, Int.reduceAdd, Int.reduceSub, Int.reduceToNat, ↓reduceIte, reduceCtorEq])
    repeat' (first | intro _ | refine And.intro ?_ ?_)
    all_goals try (first | omega | (simp only [List.length_map, List.length_cons, List.length_nil, List.length_append, Nat.zero_add]; omega) | exact Int.natCast_nonneg _ | exact Int.le_trans (by decide) (Int.natCast_nonneg _) | exact Nat.le_of_ble_eq_true rfl)
    · have h1 : (v.copies[k]!).may.testBit p.toNat = true := by assumption
      refine ⟨k + 1, by dsimp only; omega, by dsimp only; omega, ?_⟩
      (simp only [Fits, fitsV, fitsO, fitsL, ↓upd, ↓lookV, ↓lookO, ↓lookL, Nat.reduceEqDiff, ↓reduceIte, ints, and_true, true_and, Option.some.injEq])
      rw [ownTo_succ, if_pos h1]
      simp
    · have h1 : ¬ (v.copies[k]!).may.testBit p.toNat = true := by assumption
      refine ⟨k + 1, by dsimp only; omega, by dsimp only; omega, ?_⟩
      (simp only [Fits, fitsV, fitsO, fitsL, ↓upd, ↓lookV, ↓lookO, ↓lookL, Nat.reduceEqDiff, ↓reduceIte, ints, and_true, true_and, Option.some.injEq])
      rw [ownTo_succ, if_neg h1]
      simp
  · rw [ownL, show k = v.copies.length by omega]

/-- The index of the copy with a number. -/
def atL (v : VChest) (n : Int) : Int := idxL (fun x : VCopy => decide ((x.number : Int) = n)) v.copies

theorem at_c (v : VChest) (hv : VOk v) (n : Int) : PCall Try.prog 71 [vchestA v, .int .i64 n] (.int .i64 (atL v n)) := by
  intro m
  have hc := hv.c
  simp only [vchestA, vchestL, strs]
  (refine acall_intro (E := env fun _ => .imm) (envOk _) rfl Try.func71 rfl Try.call71 (by kernel_rfl) (by simp [Try.ntmps71]) ?_; simp only [Try.f71];  simp (maxSteps := 4000000) only [↓VP0, ↓VP1, ↓VP2, VQ0, VQ1, VQ2, VQ3, VQ4, VT, ite_self, ite_split, Nat.reduceEqDiff, Nat.reduceAdd, Nat.reduceSub, Nat.reduceMul, Nat.reduceLeDiff, Nat.reduceLT, Nat.reduceBEq, Int.reduceLE, Int.reduceLT, Int.reduceNeg, Int.reduceAdd, Int.reduceSub, Int.reduceToNat, ↓reduceIte, reduceCtorEq])
  refine aloop (envOk _) (fun k : Nat => ⟨[(1, .v (.int .i64 n)), (2, .v (.eptr [.int .i64 v.words, .int .i64 v.facts, .slice 1 (v.people.map AV.str), .int .i64 v.last, .slice 4 (v.copies.map vcopyA), .slice 2 (v.rules.map vruleA)])), (5, .v (.int .i64 k))], [], [], m⟩)
    (fun k => k ≤ v.copies.length ∧ ∀ x ∈ v.copies.take k, (x.number : Int) ≠ n) (fun k => v.copies.length - k) 0 (fun _ => rfl) (by simp) (by (simp only [Fits, fitsV, fitsO, fitsL, ↓upd, ↓lookV, ↓lookO, ↓lookL, Nat.reduceEqDiff, ↓reduceIte, ints, and_true, true_and, Option.some.injEq]); simp) ?_
  rintro k ⟨hk, hq⟩
  simp (maxSteps := 4000000) only [↓VP0, ↓VP1, ↓VP2, VQ0, VQ1, VQ2, VQ3, VQ4, VT, ite_self, ite_split, Nat.reduceEqDiff, Nat.reduceAdd, Nat.reduceSub, Nat.reduceMul, Nat.reduceLeDiff, Nat.reduceLT, Nat.reduceBEq, Int.reduceLE, Int.reduceLT, Int.reduceNeg, Int.reduceAdd, Int.reduceSub, Int.reduceToNat, ↓reduceIte, reduceCtorEq, vcopyA]
  repeat' (first | intro _ | refine And.intro ?_ ?_)
  all_goals try (first | omega | (simp only [List.length_map, List.length_cons, List.length_nil, List.length_append, Nat.zero_add]; omega) | exact Int.natCast_nonneg _ | exact Int.le_trans (by decide) (Int.natCast_nonneg _) | exact Nat.le_of_ble_eq_true rfl)
  · have hlt : k < v.copies.length := by omega
    have h1 : ((v.copies[k]!).number : Int) = n := by assumption
    rw [getD_any hlt] at h1
    rw [atL, idxL_at hlt (fun x hx => by simpa using hq x hx) (by simpa using h1)]
  · have hlt : k < v.copies.length := by omega
    have h1 : ¬ ((v.copies[k]!).number : Int) = n := by assumption
    rw [getD_any hlt] at h1
    (refine ⟨k + 1, ?_, by dsimp only; omega, ?_⟩; rotate_left 1; · ((simp only [Fits, fitsV, fitsO, fitsL, ↓upd, ↓lookV, ↓lookO, ↓lookL, Nat.reduceEqDiff, ↓reduceIte, ints, and_true, true_and, Option.some.injEq]); try simp []))
    exact ⟨by omega, forall_take_succ hlt hq h1⟩
  · rw [List.take_of_length_le (by omega)] at hq
    rw [atL, idxL_neg (fun x hx => by simpa using hq x hx)]
end Go.Proofs.Ytakkdmdkelbnjaa.Abs

/- Contracts: what is asked; what is looked at. -/
namespace Go.Proofs.Ytakkdmdkelbnjaa.Abs
set_option linter.unusedSimpArgs false
set_option maxHeartbeats 4000000
set_option maxRecDepth 100000
open Go Go.RowKit Go.Proofs

/-- Somebody's copies that have all words of a list. -/
def foundL (v : VChest) (p : Int) (l : List Int) : List Int := (ownL v p).filter fun i => wordedB (v.copies[i.toNat]!) l

theorem ownL_range {v : VChest} {p i : Int} (h : i ∈ ownL v p) : 0 ≤ i ∧ i < v.copies.length := by
  simp only [ownL, ownTo, List.mem_map, List.mem_filter, List.mem_range] at h
  obtain ⟨k, ⟨h1, _⟩, rfl⟩ := h
  omega

theorem found_c (v : VChest) (hv : VOk v) (p : Int) (l : List Int) (hp : p ≤ 9223372036854775807) (hl : ∀ w ∈ l, w ≤ 9223372036854775807) : PCall Try.prog 65 [vchestA v, .int .i64 p, ints l] (ints (foundL v p l)) := by
  intro m
  have hc := hv.c
  have ho := own_c v hv p hp
  have hol : (ownL v p).length ≤ 6 := Nat.le_trans (ownTo_length v p _) hc
  simp only [vchestA, vchestL, strs] at ho ⊢
  (refine acall_intro (E := env fun _ => .imm) (envOk _) rfl Try.func65 rfl Try.call65 (by kernel_rfl) (by simp [Try.ntmps65]) ?_; simp only [Try.f65];  simp (maxSteps := 4000000) only [↓VP0, ↓VP1, ↓VP2, VQ0, VQ1, VQ2, VQ3, VQ4, VT, ite_self, ite_split, Nat.reduceEqDiff, Nat.reduceAdd, Nat.reduceSub, Nat.reduceMul, Nat.reduceLeDiff, Nat.reduceLT, Nat.reduceBEq, Int.reduceLE, Int.reduceLT, Int.reduceNeg, Int.reduceAdd, Int.reduceSub, Int.reduceToNat, ↓reduceIte, reduceCtorEq])
  (refine ACall.pure (ho) ?_; try simp (maxSteps := 4000000) only [↓VP0, ↓VP1, ↓VP2, VQ0, VQ1, VQ2, VQ3, VQ4, VT, ite_self, ite_split, Nat.reduceEqDiff, Nat.reduceAdd, Nat.reduceSub, Nat.reduceMul, Nat.reduceLeDiff, Nat.reduceLT, Nat.reduceBEq, Int.reduceLE, Int.reduceLT, Int.reduceNeg, Int.reduceAdd, Int.reduceSub, Int.reduceToNat, ↓reduceIte, reduceCtorEq])
  refine aloop (envOk _) (fun k : Nat => ⟨[(2, .v (ints l)), (3, .v (.eptr [.int .i64 v.words, .int .i64 v.facts, .slice 1 (v.people.map AV.str), .int .i64 v.last, .slice 4 (v.copies.map vcopyA), .slice 2 (v.rules.map vruleA)])),
      (7, .v (ints (ownL v p))), (8, .v (ints (((ownL v p).take k).filter fun i => wordedB (v.copies[i.toNat]!) l))), (9, .v (.int .i64 k))], [8], [], m⟩)
    (fun k => k ≤ (ownL v p).length) (fun k => (ownL v p).length - k) 0 (fun _ => rfl) (by simp) (by (simp only [Fits, fitsV, fitsO, fitsL, ↓upd, ↓lookV, ↓lookO, ↓lookL, Nat.reduceEqDiff, ↓reduceIte, ints, and_true, true_and, Option.some.injEq]); simp) ?_
  intro k hk
  have hlen : (((ownL v p).take k).filter fun i => wordedB (v.copies[i.toNat]!) l).length ≤ k := Nat.le_trans (List.length_filter_le _ _) (by rw [List.length_take]; omega)
  have hin : k < (ownL v p).length → 0 ≤ (ownL v p)[k]! ∧ (ownL v p)[k]! < v.copies.length := fun h => by
    rw [getD_idx h]; exact ownL_range (List.getElem_mem h)
  simp (maxSteps := 4000000) only [↓VP0, ↓VP1, ↓VP2, VQ0, VQ1, VQ2, VQ3, VQ4, VT, ite_self, ite_split, Nat.reduceEqDiff, Nat.reduceAdd, Nat.reduceSub, Nat.reduceMul, Nat.reduceLeDiff, Nat.reduceLT, Nat.reduceBEq, Int.reduceLE, Int.reduceLT, Int.reduceNeg, Int.reduceAdd, Int.reduceSub, Int.reduceToNat, ↓reduceIte, reduceCtorEq]
  repeat' (first | intro _ | refine And.intro ?_ ?_)
  all_goals try (first | omega | (simp only [List.length_map, List.length_cons, List.length_nil, List.length_append, Nat.zero_add]; omega) | exact Int.natCast_nonneg _ | exact Int.le_trans (by decide) (Int.natCast_nonneg _) | exact Nat.le_of_ble_eq_true rfl)
  · have hlt : k < (ownL v p).length := by omega
    have e1 : (ownL v p)[k]! = (ownL v p)[k] := getD_idx hlt
    have e2 : (ownL v p).take (k + 1) = (ownL v p).take k ++ [(ownL v p)[k]!] := by rw [e1]; exact List.take_succ_eq_append_getElem hlt
    have hin' := hin hlt
    have hw := refworded_c (v.copies[((ownL v p)[k]!).toNat]!) l (may_lt v hv (by omega)).2.1 hl
    simp only [vcopyA, ints] at hw
    (refine adraw (by first | exact envOk _ | exact envCOk _ _ _) mixed [⟨false, false, 0⟩, ⟨false, false, 0⟩, ⟨false, false, 0⟩, ⟨false, false, 0⟩, ⟨false, false, 0⟩, ⟨false, false, 0⟩, ⟨false, false, 0⟩, ⟨false, false, 0⟩, ⟨false, false, 0⟩, ⟨false, false, 0⟩] (by kernel_rfl) ?_; show vcOpsD _ _ _ (_ :: _) _ _)
    simp (maxSteps := 4000000) only [↓VP0, ↓VP1, ↓VP2, VQ0, VQ1, VQ2, VQ3, VQ4, VT, ite_self, ite_split, Nat.reduceEqDiff, Nat.reduceAdd, Nat.reduceSub, Nat.reduceMul, Nat.reduceLeDiff, Nat.reduceLT, Nat.reduceBEq, Int.reduceLE, Int.reduceLT, Int.reduceNeg, Int.reduceAdd, Int.reduceSub, Int.reduceToNat, ↓reduceIte, reduceCtorEq, vcopyA]
    repeat' (first | intro _ | refine And.intro ?_ ?_)
    all_goals try (first | omega | (simp only [List.length_map, List.length_cons, List.length_nil, List.length_append, Nat.zero_add]; omega) | exact Int.natCast_nonneg _ | exact Int.le_trans (by decide) (Int.natCast_nonneg _) | exact Nat.le_of_ble_eq_true rfl)
    (refine ⟨_, hw, ?_⟩; try simp (maxSteps := 4000000) only [↓VP0, ↓VP1, ↓VP2, VQ0, VQ1, VQ2, VQ3, VQ4, VT, ite_self, ite_split, Nat.reduceEqDiff, Nat.reduceAdd, Nat.reduceSub, Nat.reduceMul, Nat.reduceLeDiff, Nat.reduceLT, Nat.reduceBEq, Int.reduceLE, Int.reduceLT, Int.reduceNeg, Int.reduceAdd, Int.reduceSub, Int.reduceToNat, ↓reduceIte, reduceCtorEq])
    repeat' (first | intro _ | refine And.intro ?_ ?_)
    all_goals try (first | omega | (simp only [List.length_map, List.length_cons, List.length_nil, List.length_append, Nat.zero_add]; omega) | exact Int.natCast_nonneg _ | exact Int.le_trans (by decide) (Int.natCast_nonneg _) | exact Nat.le_of_ble_eq_true rfl)
    · have h1 : wordedB (v.copies[((ownL v p)[k]!).toNat]!) l = true := by assumption
      refine ⟨k + 1, by dsimp only; omega, by dsimp only; omega, ?_⟩
      (simp only [Fits, fitsV, fitsO, fitsL, ↓upd, ↓lookV, ↓lookO, ↓lookL, Nat.reduceEqDiff, ↓reduceIte, ints, and_true, true_and, Option.some.injEq])
      rw [e2, List.filter_append, List.filter_cons_of_pos (by exact h1)]
      simp
    · have h1 : ¬ wordedB (v.copies[((ownL v p)[k]!).toNat]!) l = true := by assumption
      refine ⟨k + 1, by dsimp only; omega, by dsimp only; omega, ?_⟩
      (simp only [Fits, fitsV, fitsO, fitsL, ↓upd, ↓lookV, ↓lookO, ↓lookL, Nat.reduceEqDiff, ↓reduceIte, ints, and_true, true_and, Option.some.injEq])
      rw [e2, List.filter_append, List.filter_cons_of_neg (by exact h1)]
      simp
  · rw [foundL, List.take_of_length_le (by omega : (ownL v p).length ≤ k)]

/-- What is wrong with what is asked. -/
def askedR (e n below : Int) (l : List Int) (under : Int) : Int :=
  if e ≠ 0 then e else if offP 0 (below - 1) n = true then 4 else if l.any (offP 0 (under - 1)) = true then 4 else if risingL under (-1) l = true then 0 else 2

theorem asked_c (c : RChest) (hs : namesFit c) (n below : Int) (l : List Int) (under : Int) (hbd : (checkR c).2.2 = 0 → -1000 ≤ below ∧ -1000 ≤ under ∧ under ≤ 9223372036854775807 ∧ below ≤ 9223372036854775807) :
    PCall Try.prog 64 [chestA c, .int .i64 n, .int .i64 below, ints l, .int .i64 under] (.int .i64 (askedR (checkR c).2.2 n below l under)) := by
  intro m
  have hchk := refcheck_c c hs
  have hi1 := in_c n 0 (below - 1)
  rw [show decide (0 ≤ n ∧ n ≤ below - 1) = !offP 0 (below - 1) n by rw [Bool.eq_iff_iff]; simp [offP]] at hi1
  simp only [chestA, chestL, strs] at hchk ⊢
  generalize (checkR c).2.2 = e at *
  (refine acall_intro (E := env fun _ => .imm) (envOk _) rfl Try.func64 rfl Try.call64 (by kernel_rfl) (by simp [Try.ntmps64]) ?_; simp only [Try.f64];  simp (maxSteps := 4000000) only [↓VP0, ↓VP1, ↓VP2, VQ0, VQ1, VQ2, VQ3, VQ4, VT, ite_self, ite_split, Nat.reduceEqDiff, Nat.reduceAdd, Nat.reduceSub, Nat.reduceMul, Nat.reduceLeDiff, Nat.reduceLT, Nat.reduceBEq, Int.reduceLE, Int.reduceLT, Int.reduceNeg, Int.reduceAdd, Int.reduceSub, Int.reduceToNat, ↓reduceIte, reduceCtorEq])
  (refine ACall.pure (hchk) ?_; try simp (maxSteps := 4000000) only [↓VP0, ↓VP1, ↓VP2, VQ0, VQ1, VQ2, VQ3, VQ4, VT, ite_self, ite_split, Nat.reduceEqDiff, Nat.reduceAdd, Nat.reduceSub, Nat.reduceMul, Nat.reduceLeDiff, Nat.reduceLT, Nat.reduceBEq, Int.reduceLE, Int.reduceLT, Int.reduceNeg, Int.reduceAdd, Int.reduceSub, Int.reduceToNat, ↓reduceIte, reduceCtorEq])
  repeat' (first | intro _ | refine And.intro ?_ ?_)
  · have h1 : e ≠ 0 := by assumption
    rw [askedR, if_pos h1]
  all_goals have h1 : ¬ e ≠ 0 := by assumption
  all_goals try (first | omega | (simp only [List.length_map, List.length_cons, List.length_nil, List.length_append, Nat.zero_add]; omega) | exact Int.natCast_nonneg _ | exact Int.le_trans (by decide) (Int.natCast_nonneg _) | exact Nat.le_of_ble_eq_true rfl)
  (refine ACall.pure (hi1) ?_; try simp (maxSteps := 4000000) only [↓VP0, ↓VP1, ↓VP2, VQ0, VQ1, VQ2, VQ3, VQ4, VT, ite_self, ite_split, Nat.reduceEqDiff, Nat.reduceAdd, Nat.reduceSub, Nat.reduceMul, Nat.reduceLeDiff, Nat.reduceLT, Nat.reduceBEq, Int.reduceLE, Int.reduceLT, Int.reduceNeg, Int.reduceAdd, Int.reduceSub, Int.reduceToNat, ↓reduceIte, reduceCtorEq])
  repeat' (first | intro _ | refine And.intro ?_ ?_)
  · have h2 : offP 0 (below - 1) n = true := by (first | assumption | (rw [← Bool.not_eq_false]; assumption) | (rw [← Bool.not_eq_true]; assumption) | omega)
    rw [askedR, if_neg h1, if_pos h2]
  have h2 : ¬ offP 0 (below - 1) n = true := by (first | assumption | (rw [← Bool.not_eq_false]; assumption) | (rw [← Bool.not_eq_true]; assumption) | omega)
  refine aloop (envOk _) (fun k : Nat => ⟨[(3, .v (ints l)), (4, .v (.int .i64 under)), (14, .v (.int .i64 k))], [], [], m⟩)
    (fun k => k ≤ l.length ∧ ∀ x ∈ l.take k, offP 0 (under - 1) x = false) (fun k => l.length - k) 0 (fun _ => rfl) (by simp) (by (simp only [Fits, fitsV, fitsO, fitsL, ↓upd, ↓lookV, ↓lookO, ↓lookL, Nat.reduceEqDiff, ↓reduceIte, ints, and_true, true_and, Option.some.injEq]); simp) ?_
  rintro k ⟨hk, hq⟩
  simp (maxSteps := 4000000) only [↓VP0, ↓VP1, ↓VP2, VQ0, VQ1, VQ2, VQ3, VQ4, VT, ite_self, ite_split, Nat.reduceEqDiff, Nat.reduceAdd, Nat.reduceSub, Nat.reduceMul, Nat.reduceLeDiff, Nat.reduceLT, Nat.reduceBEq, Int.reduceLE, Int.reduceLT, Int.reduceNeg, Int.reduceAdd, Int.reduceSub, Int.reduceToNat, ↓reduceIte, reduceCtorEq]
  repeat' (first | intro _ | refine And.intro ?_ ?_)
  all_goals try (first | omega | (simp only [List.length_map, List.length_cons, List.length_nil, List.length_append, Nat.zero_add]; omega) | exact Int.natCast_nonneg _ | exact Int.le_trans (by decide) (Int.natCast_nonneg _) | exact Nat.le_of_ble_eq_true rfl)
  · have hlt : k < l.length := by omega
    have e1 : l[k]! = l[k] := getD_idx hlt
    have hi2 := in_c l[k]! 0 (under - 1)
    rw [show decide (0 ≤ l[k]! ∧ l[k]! ≤ under - 1) = !offP 0 (under - 1) l[k]! by rw [Bool.eq_iff_iff]; simp [offP]] at hi2
    (refine ACall.pure (hi2) ?_; try simp (maxSteps := 4000000) only [↓VP0, ↓VP1, ↓VP2, VQ0, VQ1, VQ2, VQ3, VQ4, VT, ite_self, ite_split, Nat.reduceEqDiff, Nat.reduceAdd, Nat.reduceSub, Nat.reduceMul, Nat.reduceLeDiff, Nat.reduceLT, Nat.reduceBEq, Int.reduceLE, Int.reduceLT, Int.reduceNeg, Int.reduceAdd, Int.reduceSub, Int.reduceToNat, ↓reduceIte, reduceCtorEq])
    repeat' (first | intro _ | refine And.intro ?_ ?_)
    all_goals try (first | omega | (simp only [List.length_map, List.length_cons, List.length_nil, List.length_append, Nat.zero_add]; omega) | exact Int.natCast_nonneg _ | exact Int.le_trans (by decide) (Int.natCast_nonneg _) | exact Nat.le_of_ble_eq_true rfl)
    · have h3 : offP 0 (under - 1) l[k]! = true := by (first | assumption | (rw [← Bool.not_eq_false]; assumption) | (rw [← Bool.not_eq_true]; assumption) | omega)
      have h4 : l.any (offP 0 (under - 1)) = true := List.any_eq_true.2 ⟨_, List.getElem_mem hlt, by rw [← e1]; exact h3⟩
      rw [askedR, if_neg h1, if_neg h2, if_pos h4]
    · have h3 : offP 0 (under - 1) l[k]! = false := by (first | assumption | (rw [← Bool.not_eq_false]; assumption) | (rw [← Bool.not_eq_true]; assumption) | omega)
      (refine ⟨k + 1, ?_, by dsimp only; omega, ?_⟩; rotate_left 1; · ((simp only [Fits, fitsV, fitsO, fitsL, ↓upd, ↓lookV, ↓lookO, ↓lookL, Nat.reduceEqDiff, ↓reduceIte, ints, and_true, true_and, Option.some.injEq]); try simp []))
      exact ⟨by omega, forall_take_succ hlt hq (by rw [← e1]; exact h3)⟩
  · rw [List.take_of_length_le (by omega)] at hq
    have h4 : ¬ l.any (offP 0 (under - 1)) = true := by
      rw [List.any_eq_true]
      rintro ⟨x, hx, hx'⟩
      rw [hq x hx] at hx'; cases hx'
    (refine ACall.pure (rising_c l under) ?_; try simp (maxSteps := 4000000) only [↓VP0, ↓VP1, ↓VP2, VQ0, VQ1, VQ2, VQ3, VQ4, VT, ite_self, ite_split, Nat.reduceEqDiff, Nat.reduceAdd, Nat.reduceSub, Nat.reduceMul, Nat.reduceLeDiff, Nat.reduceLT, Nat.reduceBEq, Int.reduceLE, Int.reduceLT, Int.reduceNeg, Int.reduceAdd, Int.reduceSub, Int.reduceToNat, ↓reduceIte, reduceCtorEq])
    repeat' (first | intro _ | refine And.intro ?_ ?_)
    · have h5 : ¬ risingL under (-1) l = true := by first | assumption | (rw [Bool.not_eq_true]; assumption)
      rw [askedR, if_neg h1, if_neg h2, if_neg h4, if_neg h5]
    · have h5 : risingL under (-1) l = true := by (first | assumption | (rw [← Bool.not_eq_false]; assumption) | (rw [← Bool.not_eq_true]; assumption) | omega)
      rw [askedR, if_neg h1, if_neg h2, if_neg h4, if_pos h5]

theorem valid_c (c : RChest) (hs : namesFit c) : PCall Try.prog 42 [chestA c] (.bool (decide ((checkR c).2.2 = 0))) := by
  intro m
  have hchk := refcheck_c c hs
  simp only [chestA, chestL, strs] at hchk ⊢
  (refine acall_intro (E := env fun _ => .imm) (envOk _) rfl Try.func42 rfl Try.call42 (by kernel_rfl) (by simp [Try.ntmps42]) ?_; simp only [Try.f42];  simp (maxSteps := 4000000) only [↓VP0, ↓VP1, ↓VP2, VQ0, VQ1, VQ2, VQ3, VQ4, VT, ite_self, ite_split, Nat.reduceEqDiff, Nat.reduceAdd, Nat.reduceSub, Nat.reduceMul, Nat.reduceLeDiff, Nat.reduceLT, Nat.reduceBEq, Int.reduceLE, Int.reduceLT, Int.reduceNeg, Int.reduceAdd, Int.reduceSub, Int.reduceToNat, ↓reduceIte, reduceCtorEq])
  (refine ACall.pure (hchk) ?_; try simp (maxSteps := 4000000) only [↓VP0, ↓VP1, ↓VP2, VQ0, VQ1, VQ2, VQ3, VQ4, VT, ite_self, ite_split, Nat.reduceEqDiff, Nat.reduceAdd, Nat.reduceSub, Nat.reduceMul, Nat.reduceLeDiff, Nat.reduceLT, Nat.reduceBEq, Int.reduceLE, Int.reduceLT, Int.reduceNeg, Int.reduceAdd, Int.reduceSub, Int.reduceToNat, ↓reduceIte, reduceCtorEq])
  repeat' (first | intro _ | refine And.intro ?_ ?_)

theorem peopled_c (c : RChest) (hs : namesFit c) : PCall Try.prog 36 [chestA c] (.bool (decide ((checkR c).2.2 = 0) && decide (0 < c.people.length))) := by
  intro m
  have hchk := valid_c c hs
  simp only [chestA, chestL, strs] at hchk ⊢
  (refine acall_intro (E := env fun _ => .imm) (envOk _) rfl Try.func36 rfl Try.call36 (by kernel_rfl) (by simp [Try.ntmps36]) ?_; simp only [Try.f36];  simp (maxSteps := 4000000) only [↓VP0, ↓VP1, ↓VP2, VQ0, VQ1, VQ2, VQ3, VQ4, VT, ite_self, ite_split, Nat.reduceEqDiff, Nat.reduceAdd, Nat.reduceSub, Nat.reduceMul, Nat.reduceLeDiff, Nat.reduceLT, Nat.reduceBEq, Int.reduceLE, Int.reduceLT, Int.reduceNeg, Int.reduceAdd, Int.reduceSub, Int.reduceToNat, ↓reduceIte, reduceCtorEq])
  (refine ACall.pure (hchk) ?_; try simp (maxSteps := 4000000) only [↓VP0, ↓VP1, ↓VP2, VQ0, VQ1, VQ2, VQ3, VQ4, VT, ite_self, ite_split, Nat.reduceEqDiff, Nat.reduceAdd, Nat.reduceSub, Nat.reduceMul, Nat.reduceLeDiff, Nat.reduceLT, Nat.reduceBEq, Int.reduceLE, Int.reduceLT, Int.reduceNeg, Int.reduceAdd, Int.reduceSub, Int.reduceToNat, ↓reduceIte, reduceCtorEq])
  repeat' (first | intro _ | refine And.intro ?_ ?_)
  all_goals simp_all
end Go.Proofs.Ytakkdmdkelbnjaa.Abs

/- Contracts: look, enter. -/
namespace Go.Proofs.Ytakkdmdkelbnjaa.Abs
set_option linter.unusedSimpArgs false
set_option maxHeartbeats 4000000
set_option maxRecDepth 100000
open Go Go.RowKit Go.Proofs

/-- What somebody may see of the first copies. -/
def vw (v : VChest) (i p : Nat) : Nat := if p < v.people.length then setOf (fun i => (v.copies[i]!).may.testBit p) i else 0

theorem vw_all (v : VChest) (p : Nat) : vw v v.copies.length p = viewS v p := rfl
theorem vw_zero (v : VChest) (p : Nat) : vw v 0 p = 0 := by simp [vw, setOf]
theorem vw_succ (v : VChest) (i p : Nat) (hp : p < v.people.length) : vw v (i + 1) p = if (v.copies[i]!).may.testBit p = true then vw v i p ||| 2 ^ i else vw v i p := by
  unfold vw; rw [if_pos hp, if_pos hp]; rfl
theorem vw_out (v : VChest) (i j p : Nat) (hp : ¬ p < v.people.length) : vw v i p = vw v j p := by
  unfold vw; rw [if_neg hp, if_neg hp]
theorem vw_lt (v : VChest) (i p : Nat) : vw v i p < 2 ^ i := by
  unfold vw; split
  · exact setOf_lt _ _
  · exact Nat.pow_pos (by decide)

/-- The cells of what is looked at, while it is made. -/
def seenAt (v : VChest) (b : Nat) (x y z : Nat) : List AV := [.int .i64 v.words, .int .i64 v.facts, .slice 1 (v.people.map AV.str), .int .i64 v.last, .slice 4 (v.copies.map vcopyA), .slice 2 (v.rules.map vruleA),
  .int .i64 x, .int .i64 y, .int .i64 z, .map b]

def half (v : VChest) (i p q : Nat) : Nat := if q < p then vw v (i + 1) q else vw v i q

theorem look_c (v : VChest) (hv : VOk v) (m : Mem) : ACall Try.prog 87 [vchestA v] m fun r m' => ∃ b, m b = none ∧ r = .eptr (seenL v b) ∧ m' = upd m b (some (.map [])) := by
  have hc := hv.c
  have hp3 := hv.p
  simp only [vchestA, vchestL, strs]
  (refine acall_intro (E := envC (modeAt [5, 10] []) false []) (envCOk _ _ _) rfl Try.func87 rfl Try.call87 (by kernel_rfl) (by simp [Try.ntmps87]) ?_; simp only [Try.f87];  simp (maxSteps := 4000000) only [↓VP0, ↓VP1, ↓VP2, VQ0, VQ1, VQ2, VQ3, VQ4, VT, ite_self, ite_split, Nat.reduceEqDiff, Nat.reduceAdd, Nat.reduceSub, Nat.reduceMul, Nat.reduceLeDiff, Nat.reduceLT, Nat.reduceBEq, Int.reduceLE, Int.reduceLT, Int.reduceNeg, Int.reduceAdd, Int.reduceSub, Int.reduceToNat, ↓reduceIte, reduceCtorEq])
  intro b hb _
  refine aloop (envCOk _ _ _) (fun i : Nat => ⟨[(1, .v (.eptr [.int .i64 v.words, .int .i64 v.facts, .slice 1 (v.people.map AV.str), .int .i64 v.last, .slice 4 (v.copies.map vcopyA), .slice 2 (v.rules.map vruleA)])),
      (3, .loc 10 0), (12, .v (.slice 4 (v.copies.map vcopyA))), (13, .v (.int .i64 v.copies.length)), (14, .v (.int .i64 i))], [], [(10, seenAt v b (vw v i 0) (vw v i 1) (vw v i 2))], upd m b (some (.map []))⟩)
    (fun i => i ≤ v.copies.length) (fun i => v.copies.length - i) 0 (fun _ => rfl) (by simp) (by (simp (maxSteps := 4000000) only [↓VP0, ↓VP1, ↓VP2, VQ0, VQ1, VQ2, VQ3, VQ4, VT, ite_self, ite_split, Nat.reduceEqDiff, Nat.reduceAdd, Nat.reduceSub, Nat.reduceMul, Nat.reduceLeDiff, Nat.reduceLT, Nat.reduceBEq, Int.reduceLE, Int.reduceLT, Int.reduceNeg, Int.reduceAdd, Int.reduceSub, Int.reduceToNat, ↓reduceIte, reduceCtorEq, Fits, fitsV, fitsO, fitsL, seenAt]); simp [vw_zero]) ?_
  intro i hi
  simp only [seenAt]
  simp (maxSteps := 4000000) only [↓VP0, ↓VP1, ↓VP2, VQ0, VQ1, VQ2, VQ3, VQ4, VT, ite_self, ite_split, Nat.reduceEqDiff, Nat.reduceAdd, Nat.reduceSub, Nat.reduceMul, Nat.reduceLeDiff, Nat.reduceLT, Nat.reduceBEq, Int.reduceLE, Int.reduceLT, Int.reduceNeg, Int.reduceAdd, Int.reduceSub, Int.reduceToNat, ↓reduceIte, reduceCtorEq, vcopyA]
  repeat' (first | intro _ | refine And.intro ?_ ?_)
  all_goals try (first | omega | (simp only [List.length_map, List.length_cons, List.length_nil, List.length_append, Nat.zero_add]; omega) | exact Int.natCast_nonneg _ | exact Int.le_trans (by decide) (Int.natCast_nonneg _) | exact Nat.le_of_ble_eq_true rfl)
  · have hlt : i < v.copies.length := by omega
    refine aloop (envCOk _ _ _) (fun p : Nat => ⟨[(1, .v (.eptr [.int .i64 v.words, .int .i64 v.facts, .slice 1 (v.people.map AV.str), .int .i64 v.last, .slice 4 (v.copies.map vcopyA), .slice 2 (v.rules.map vruleA)])),
        (3, .loc 10 0), (4, .v (.int .i64 i)), (5, .loc 5 0), (12, .v (.slice 4 (v.copies.map vcopyA))), (13, .v (.int .i64 v.copies.length)), (14, .v (.int .i64 i)), (20, .v (.slice 1 (v.people.map AV.str))), (21, .v (.int .i64 v.people.length)), (22, .v (.int .i64 p))], [],
        [(10, seenAt v b (half v i p 0) (half v i p 1) (half v i p 2)), (5, [.int .i64 (v.copies[i]!).number, .int .i64 (v.copies[i]!).words, .int .i64 (v.copies[i]!).facts, .int .i64 (v.copies[i]!).may])], upd m b (some (.map []))⟩)
      (fun p => p ≤ v.people.length) (fun p => v.people.length - p) 0 (fun _ => rfl) (by simp) (by simp only [seenAt]; (simp only [Fits, fitsV, fitsO, fitsL, ↓upd, ↓lookV, ↓lookO, ↓lookL, Nat.reduceEqDiff, ↓reduceIte, ints, and_true, true_and, Option.some.injEq]); simp [half]) ?_
    intro p hp
    simp only [seenAt]
    have h0 := vw_lt v i p
    have h1 : 2 ^ i ≤ 2 ^ 6 := Nat.pow_le_pow_right (by decide) (by omega)
    have hm := (may_lt v hv hlt).1
    have hle : (v.copies[i]!).may / 2 ^ p ≤ (v.copies[i]!).may := Nat.div_le_self _ _
    simp (maxSteps := 4000000) only [↓VP0, ↓VP1, ↓VP2, VQ0, VQ1, VQ2, VQ3, VQ4, VT, ite_self, ite_split, Nat.reduceEqDiff, Nat.reduceAdd, Nat.reduceSub, Nat.reduceMul, Nat.reduceLeDiff, Nat.reduceLT, Nat.reduceBEq, Int.reduceLE, Int.reduceLT, Int.reduceNeg, Int.reduceAdd, Int.reduceSub, Int.reduceToNat, ↓reduceIte, reduceCtorEq]
    repeat' (first | intro _ | refine And.intro ?_ ?_)
    all_goals try (first | omega | (simp only [List.length_map, List.length_cons, List.length_nil, List.length_append, Nat.zero_add]; omega) | exact Int.natCast_nonneg _ | exact Int.le_trans (by decide) (Int.natCast_nonneg _) | exact Nat.le_of_ble_eq_true rfl)
    · have hb1 : (v.copies[i]!).may.testBit p = true := by assumption
      have hlp : p < v.people.length := by omega
      have hs := vw_succ v i p hlp
      rw [if_pos hb1] at hs
      have hpp : p = 0 ∨ p = 1 ∨ p = 2 := by omega
      rcases hpp with rfl | rfl | rfl
      all_goals
        refine adraw (envCOk _ _ _) mixed [⟨false, false, 0⟩, ⟨false, false, 0⟩, ⟨false, false, 0⟩, ⟨false, false, 0⟩, ⟨false, false, 0⟩, ⟨false, false, 0⟩, ⟨false, false, 0⟩, ⟨false, false, 0⟩, ⟨false, false, 0⟩, ⟨true, false, 0⟩, ⟨true, false, 0⟩, ⟨false, false, 0⟩, ⟨false, false, 0⟩] (by kernel_rfl) ?_
        simp (maxSteps := 4000000) only [↓VP0, ↓VP1, ↓VP2, VQ0, VQ1, VQ2, VQ3, VQ4, VT, ite_self, ite_split, Nat.reduceEqDiff, Nat.reduceAdd, Nat.reduceSub, Nat.reduceMul, Nat.reduceLeDiff, Nat.reduceLT, Nat.reduceBEq, Int.reduceLE, Int.reduceLT, Int.reduceNeg, Int.reduceAdd, Int.reduceSub, Int.reduceToNat, ↓reduceIte, reduceCtorEq, half]
        repeat' (first | intro _ | refine And.intro ?_ ?_)
        all_goals try (first | omega | (simp only [List.length_map, List.length_cons, List.length_nil, List.length_append, Nat.zero_add]; omega) | exact Int.natCast_nonneg _ | exact Int.le_trans (by decide) (Int.natCast_nonneg _) | exact Nat.le_of_ble_eq_true rfl)
      · refine ⟨1, by dsimp only; omega, by dsimp only; omega, ?_⟩
        (simp (maxSteps := 4000000) only [↓VP0, ↓VP1, ↓VP2, VQ0, VQ1, VQ2, VQ3, VQ4, VT, ite_self, ite_split, Nat.reduceEqDiff, Nat.reduceAdd, Nat.reduceSub, Nat.reduceMul, Nat.reduceLeDiff, Nat.reduceLT, Nat.reduceBEq, Int.reduceLE, Int.reduceLT, Int.reduceNeg, Int.reduceAdd, Int.reduceSub, Int.reduceToNat, ↓reduceIte, reduceCtorEq, Fits, fitsV, fitsO, fitsL, seenAt, half])
        simp [hs]
      · refine ⟨2, by dsimp only; omega, by dsimp only; omega, ?_⟩
        (simp (maxSteps := 4000000) only [↓VP0, ↓VP1, ↓VP2, VQ0, VQ1, VQ2, VQ3, VQ4, VT, ite_self, ite_split, Nat.reduceEqDiff, Nat.reduceAdd, Nat.reduceSub, Nat.reduceMul, Nat.reduceLeDiff, Nat.reduceLT, Nat.reduceBEq, Int.reduceLE, Int.reduceLT, Int.reduceNeg, Int.reduceAdd, Int.reduceSub, Int.reduceToNat, ↓reduceIte, reduceCtorEq, Fits, fitsV, fitsO, fitsL, seenAt, half])
        simp [hs]
      · refine ⟨3, by dsimp only; omega, by dsimp only; omega, ?_⟩
        (simp (maxSteps := 4000000) only [↓VP0, ↓VP1, ↓VP2, VQ0, VQ1, VQ2, VQ3, VQ4, VT, ite_self, ite_split, Nat.reduceEqDiff, Nat.reduceAdd, Nat.reduceSub, Nat.reduceMul, Nat.reduceLeDiff, Nat.reduceLT, Nat.reduceBEq, Int.reduceLE, Int.reduceLT, Int.reduceNeg, Int.reduceAdd, Int.reduceSub, Int.reduceToNat, ↓reduceIte, reduceCtorEq, Fits, fitsV, fitsO, fitsL, seenAt, half])
        simp [hs]
    · have hb1 : ¬ (v.copies[i]!).may.testBit p = true := by assumption
      have hlp : p < v.people.length := by omega
      have hs := vw_succ v i p hlp
      rw [if_neg hb1] at hs
      have hh : ∀ q, half v i (p + 1) q = half v i p q := fun q => by
        unfold half
        by_cases e : q = p
        · subst e; simp [hs]
        · have : q < p + 1 ↔ q < p := by omega
          simp [this]
      refine ⟨p + 1, by dsimp only; omega, by dsimp only; omega, ?_⟩
      (simp (maxSteps := 4000000) only [↓VP0, ↓VP1, ↓VP2, VQ0, VQ1, VQ2, VQ3, VQ4, VT, ite_self, ite_split, Nat.reduceEqDiff, Nat.reduceAdd, Nat.reduceSub, Nat.reduceMul, Nat.reduceLeDiff, Nat.reduceLT, Nat.reduceBEq, Int.reduceLE, Int.reduceLT, Int.reduceNeg, Int.reduceAdd, Int.reduceSub, Int.reduceToNat, ↓reduceIte, reduceCtorEq, Fits, fitsV, fitsO, fitsL, seenAt, hh])
      simp
    · have hpe : p = v.people.length := by omega
      have hh : ∀ q, half v i p q = vw v (i + 1) q := fun q => by
        unfold half
        by_cases e : q < p
        · rw [if_pos e]
        · rw [if_neg e, vw_out v i (i + 1) q (by omega)]
      refine ⟨i + 1, by dsimp only; omega, by dsimp only; omega, ?_⟩
      (simp (maxSteps := 4000000) only [↓VP0, ↓VP1, ↓VP2, VQ0, VQ1, VQ2, VQ3, VQ4, VT, ite_self, ite_split, Nat.reduceEqDiff, Nat.reduceAdd, Nat.reduceSub, Nat.reduceMul, Nat.reduceLeDiff, Nat.reduceLT, Nat.reduceBEq, Int.reduceLE, Int.reduceLT, Int.reduceNeg, Int.reduceAdd, Int.reduceSub, Int.reduceToNat, ↓reduceIte, reduceCtorEq, Fits, fitsV, fitsO, fitsL, seenAt, hh])
      simp
  · refine ⟨b, hb, ?_, rfl⟩
    rw [show i = v.copies.length by omega]
    rfl

/-- Is one of some numbers not below the other one that follows it? -/
def pairsOff : List Int → Bool
  | n :: b :: r => offP 0 (b - 1) n || pairsOff r
  | _ => false

theorem pairsOff_drop {l : List Int} {j : Nat} (h : 2 * j + 1 < l.length) : pairsOff (l.drop (2 * j)) = (offP 0 (l[2 * j + 1]! - 1) l[2 * j]! || pairsOff (l.drop (2 * (j + 1)))) := by
  have h1 : 2 * j < l.length := by omega
  rw [List.drop_eq_getElem_cons h1, List.drop_eq_getElem_cons h, getD_idx h1, getD_idx h, pairsOff]
  rfl

theorem pairsOff_end {l : List Int} {j : Nat} (h : ¬ 2 * j + 1 < l.length) : pairsOff (l.drop (2 * j)) = false := by
  by_cases h1 : 2 * j < l.length
  · rw [List.drop_eq_getElem_cons h1, List.drop_eq_nil_of_le (by omega)]; rfl
  · rw [List.drop_eq_nil_of_le (by omega)]; rfl

/-- What is wrong with a chest that is entered. -/
def enterE (c : RChest) (l : List Int) : Int := if (checkR c).2.2 ≠ 0 then (checkR c).2.2 else if pairsOff l = true then 4 else 0

theorem enter_c (c : RChest) (hs : namesFit c) (l : List Int) (hlen : l.length ≤ 1000) (hlow : (checkR c).2.2 = 0 → ∀ j, 2 * j + 1 < l.length → -9223372036854775000 ≤ l[2 * j + 1]! ∧ l[2 * j + 1]! ≤ 9223372036854775807) (m : Mem) : ACall Try.prog 58 [chestA c, ints l] m fun r m' =>
    (enterE c l ≠ 0 ∧ r = .tuple [.nilptr, .int .i64 (enterE c l)] ∧ m' = m) ∨ (enterE c l = 0 ∧ VOk c.v ∧ ∃ b, m b = none ∧ r = .tuple [.eptr (seenL c.v b), .int .i64 0] ∧ m' = upd m b (some (.map []))) := by
  have hchk := check_c c hs
  have hlook : (checkR c).2.2 = 0 → VOk c.v ∧ ∀ m, ACall Try.prog 87 [chestA c] m fun r m' => ∃ b, m b = none ∧ r = .eptr (seenL c.v b) ∧ m' = upd m b (some (.map [])) := fun h => by
    obtain ⟨h1, h2⟩ := valid_v h
    have := look_c c.v h2
    rw [← vchestA_raw, ← h1] at this
    exact ⟨h2, this⟩
  simp only [chestA, chestL, strs] at hchk hlook ⊢
  have hE : enterE c l = if (checkR c).2.2 ≠ 0 then (checkR c).2.2 else if pairsOff l = true then 4 else 0 := rfl
  generalize hee : enterE c l = E at *
  generalize (checkR c).2.2 = e at *
  (refine acall_intro (E := env fun _ => .imm) (envOk _) rfl Try.func58 rfl Try.call58 (by kernel_rfl) (by simp [Try.ntmps58]) ?_; simp only [Try.f58];  simp (maxSteps := 4000000) only [↓VP0, ↓VP1, ↓VP2, VQ0, VQ1, VQ2, VQ3, VQ4, VT, ite_self, ite_split, Nat.reduceEqDiff, Nat.reduceAdd, Nat.reduceSub, Nat.reduceMul, Nat.reduceLeDiff, Nat.reduceLT, Nat.reduceBEq, Int.reduceLE, Int.reduceLT, Int.reduceNeg, Int.reduceAdd, Int.reduceSub, Int.reduceToNat, ↓reduceIte, reduceCtorEq])
  (refine ACall.pure (hchk) ?_; try simp (maxSteps := 4000000) only [↓VP0, ↓VP1, ↓VP2, VQ0, VQ1, VQ2, VQ3, VQ4, VT, ite_self, ite_split, Nat.reduceEqDiff, Nat.reduceAdd, Nat.reduceSub, Nat.reduceMul, Nat.reduceLeDiff, Nat.reduceLT, Nat.reduceBEq, Int.reduceLE, Int.reduceLT, Int.reduceNeg, Int.reduceAdd, Int.reduceSub, Int.reduceToNat, ↓reduceIte, reduceCtorEq])
  repeat' (first | intro _ | refine And.intro ?_ ?_)
  · have h1 : e ≠ 0 := by assumption
    rw [if_pos h1] at hE
    left
    rw [hE]
    exact ⟨h1, rfl⟩
  have h1 : ¬ e ≠ 0 := by assumption
  rw [if_neg h1] at hE
  refine aloop (envOk _) (fun k : Nat => ⟨[(1, .v (ints l)), (2, .v (.eptr [.int .i64 c.words, .int .i64 c.facts, .slice 1 (c.people.map AV.str), .int .i64 c.last, .slice 4 (c.copies.map copyA), .slice 2 (c.rules.map ruleA)])), (9, .v (.int .i64 ((2 * k : Nat) : Int)))], [], [], m⟩)
    (fun k => 2 * k ≤ l.length + 1 ∧ pairsOff (l.drop (2 * k)) = pairsOff l) (fun k => l.length + 1 - 2 * k) 0 (fun _ => rfl) (by simp) (by (simp only [Fits, fitsV, fitsO, fitsL, ↓upd, ↓lookV, ↓lookO, ↓lookL, Nat.reduceEqDiff, ↓reduceIte, ints, and_true, true_and, Option.some.injEq]); simp) ?_
  rintro k ⟨hk, hq⟩
  have hidx : (((2 * k : Nat) : Int) + 1).toNat = 2 * k + 1 := by omega
  have hlo : 2 * k + 1 < l.length → -9223372036854775000 ≤ l[2 * k + 1]! ∧ l[2 * k + 1]! ≤ 9223372036854775807 := hlow (by omega) k
  simp (maxSteps := 4000000) only [↓VP0, ↓VP1, ↓VP2, VQ0, VQ1, VQ2, VQ3, VQ4, VT, ite_self, ite_split, Nat.reduceEqDiff, Nat.reduceAdd, Nat.reduceSub, Nat.reduceMul, Nat.reduceLeDiff, Nat.reduceLT, Nat.reduceBEq, Int.reduceLE, Int.reduceLT, Int.reduceNeg, Int.reduceAdd, Int.reduceSub, Int.reduceToNat, ↓reduceIte, reduceCtorEq, hidx]
  repeat' (first | intro _ | refine And.intro ?_ ?_)
  all_goals try (first | omega | (simp only [List.length_map, List.length_cons, List.length_nil, List.length_append, Nat.zero_add]; omega) | exact Int.natCast_nonneg _ | exact Int.le_trans (by decide) (Int.natCast_nonneg _) | exact Nat.le_of_ble_eq_true rfl)
  · have hlt : 2 * k + 1 < l.length := by omega
    have ho := offOne_c 0 (l[2 * k + 1]! - 1) l[2 * k]!
    rw [pairsOff_drop hlt] at hq
    (refine adraw (by first | exact envOk _ | exact envCOk _ _ _) mixed [⟨false, false, 0⟩, ⟨false, false, 0⟩, ⟨false, false, 0⟩, ⟨false, false, 0⟩, ⟨false, false, 0⟩, ⟨false, false, 0⟩, ⟨false, false, 0⟩, ⟨false, false, 0⟩, ⟨false, false, 0⟩, ⟨false, false, 0⟩, ⟨false, false, 0⟩, ⟨false, false, 0⟩] (by kernel_rfl) ?_; show vcOpsD _ _ _ (_ :: _) _ _)
    simp (maxSteps := 4000000) only [↓VP0, ↓VP1, ↓VP2, VQ0, VQ1, VQ2, VQ3, VQ4, VT, ite_self, ite_split, Nat.reduceEqDiff, Nat.reduceAdd, Nat.reduceSub, Nat.reduceMul, Nat.reduceLeDiff, Nat.reduceLT, Nat.reduceBEq, Int.reduceLE, Int.reduceLT, Int.reduceNeg, Int.reduceAdd, Int.reduceSub, Int.reduceToNat, ↓reduceIte, reduceCtorEq, hidx]
    repeat' (first | intro _ | refine And.intro ?_ ?_)
    all_goals try (first | omega | (simp only [List.length_map, List.length_cons, List.length_nil, List.length_append, Nat.zero_add]; omega) | exact Int.natCast_nonneg _ | exact Int.le_trans (by decide) (Int.natCast_nonneg _) | exact Nat.le_of_ble_eq_true rfl)
    (refine ⟨_, ho, ?_⟩; try simp (maxSteps := 4000000) only [↓VP0, ↓VP1, ↓VP2, VQ0, VQ1, VQ2, VQ3, VQ4, VT, ite_self, ite_split, Nat.reduceEqDiff, Nat.reduceAdd, Nat.reduceSub, Nat.reduceMul, Nat.reduceLeDiff, Nat.reduceLT, Nat.reduceBEq, Int.reduceLE, Int.reduceLT, Int.reduceNeg, Int.reduceAdd, Int.reduceSub, Int.reduceToNat, ↓reduceIte, reduceCtorEq])
    repeat' (first | intro _ | refine And.intro ?_ ?_)
    all_goals try (first | omega | (simp only [List.length_map, List.length_cons, List.length_nil, List.length_append, Nat.zero_add]; omega) | exact Int.natCast_nonneg _ | exact Int.le_trans (by decide) (Int.natCast_nonneg _) | exact Nat.le_of_ble_eq_true rfl)
    · have h3 : offP 0 (l[2 * k + 1]! - 1) l[2 * k]! = true := by (first | assumption | (rw [← Bool.not_eq_false]; assumption) | (rw [← Bool.not_eq_true]; assumption) | omega)
      rw [h3, Bool.true_or] at hq
      rw [if_pos hq.symm] at hE
      left
      rw [hE]
      exact ⟨by decide, rfl⟩
    · have h3 : offP 0 (l[2 * k + 1]! - 1) l[2 * k]! = false := by (first | assumption | (rw [← Bool.not_eq_false]; assumption) | (rw [← Bool.not_eq_true]; assumption) | omega)
      rw [h3, Bool.false_or] at hq
      refine ⟨k + 1, ⟨by omega, hq⟩, by dsimp only; omega, ?_⟩
      (simp only [Fits, fitsV, fitsO, fitsL, ↓upd, ↓lookV, ↓lookO, ↓lookL, Nat.reduceEqDiff, ↓reduceIte, ints, and_true, true_and, Option.some.injEq])
      simp
      omega
  · rw [pairsOff_end (by omega)] at hq
    rw [if_neg (by rw [← hq]; simp)] at hE
    obtain ⟨hv, hl⟩ := hlook (by omega)
    refine ACall.told (hl m) ?_
    rintro r m' ⟨b, hb, rfl, rfl⟩
    simp (maxSteps := 4000000) only [↓VP0, ↓VP1, ↓VP2, VQ0, VQ1, VQ2, VQ3, VQ4, VT, ite_self, ite_split, Nat.reduceEqDiff, Nat.reduceAdd, Nat.reduceSub, Nat.reduceMul, Nat.reduceLeDiff, Nat.reduceLT, Nat.reduceBEq, Int.reduceLE, Int.reduceLT, Int.reduceNeg, Int.reduceAdd, Int.reduceSub, Int.reduceToNat, ↓reduceIte, reduceCtorEq]
    right
    exact ⟨hE, hv, b, hb, rfl, rfl⟩
end Go.Proofs.Ytakkdmdkelbnjaa.Abs

/- Contracts: Lost. -/
namespace Go.Proofs.Ytakkdmdkelbnjaa.Abs
set_option linter.unusedSimpArgs false
set_option maxHeartbeats 4000000
set_option maxRecDepth 100000
open Go Go.RowKit Go.Proofs

/-- The numbers up to one that no copy has. -/
def lostTo (v : VChest) (k : Nat) : List Int := ((List.range k).map fun (i : Nat) => (i : Int) + 1).filter fun n => decide (n ∉ numbersL v)
def lostL (v : VChest) : List Int := lostTo v v.last
def lostR (c : RChest) : List Int × Int := if (checkR c).2.2 ≠ 0 then ([], (checkR c).2.2) else (lostL c.v, 0)

theorem lostTo_succ (v : VChest) (k : Nat) : lostTo v (k + 1) = if (k : Int) + 1 ∈ numbersL v then lostTo v k else lostTo v k ++ [(k : Int) + 1] := by
  unfold lostTo
  rw [List.range_succ, List.map_append, List.filter_append]
  by_cases h : (k : Int) + 1 ∈ numbersL v <;> simp [h]

theorem lostTo_length (v : VChest) (k : Nat) : (lostTo v k).length ≤ k := by
  unfold lostTo
  exact Nat.le_trans (List.length_filter_le _ _) (by simp)

theorem rise_lt {v : VChest} (hv : VOk v) {i : Nat} : ∀ {j : Nat}, i < j → j < v.copies.length → (v.copies[i]!).number < (v.copies[j]!).number
  | 0, h, _ => by omega
  | j + 1, h, hj => by
    have h1 := hv.rise j hj
    by_cases e : i = j
    · subst e; exact h1
    · have := rise_lt hv (i := i) (j := j) (by omega) (by omega)
      omega

theorem mem_numbers {v : VChest} {n : Int} : n ∈ numbersL v ↔ ∃ i, i < v.copies.length ∧ ((v.copies[i]!).number : Int) = n := by
  unfold numbersL
  rw [List.mem_map]
  constructor
  · rintro ⟨x, hx, rfl⟩
    obtain ⟨i, hi, rfl⟩ := List.mem_iff_getElem.1 hx
    exact ⟨i, hi, by rw [getD_any hi]⟩
  · rintro ⟨i, hi, h⟩
    exact ⟨v.copies[i], List.getElem_mem hi, by rw [← getD_any hi]; exact h⟩

/-- The cells of all copies. -/
def cellsC (l : List VCopy) : List AV := (l.map fun x => AV.cells (vcopyA x)).flatten

theorem cellsC_length : ∀ l : List VCopy, (cellsC l).length = 4 * l.length
  | [] => rfl
  | x :: l => by
    have := cellsC_length l
    unfold cellsC at this ⊢
    simp only [List.map_cons, List.flatten_cons, List.length_append, this, List.length_cons]
    simp [vcopyA, AV.cells]; omega

theorem cellsC_drop : ∀ (l : List VCopy) (j : Nat), (cellsC l).drop (j * 4) = cellsC (l.drop j)
  | l, 0 => by simp
  | [], j + 1 => by simp [cellsC]
  | x :: l, j + 1 => by
    have := cellsC_drop l j
    rw [List.drop_succ_cons, ← this]
    show List.drop ((j + 1) * 4) (AV.cells (vcopyA x) ++ cellsC l) = _
    rw [List.drop_append]
    have h1 : (AV.cells (vcopyA x)).length = 4 := rfl
    rw [List.drop_eq_nil_of_le (by rw [h1]; omega), h1, List.nil_append]
    congr 1; omega

theorem cellsC_head {l : List VCopy} {j : Nat} (h : j < l.length) : ∃ r, (cellsC l).drop (j * 4) = .int .i64 (l[j]!).number :: r := by
  rw [cellsC_drop, List.drop_eq_getElem_cons h, getD_any h]
  exact ⟨_, rfl⟩

theorem cells_over (l : List VCopy) (z : List AV) (hz : z.length = 4) : (List.map AV.cells (List.map vcopyA l)).flatten ++ List.drop (List.map AV.cells (List.map vcopyA l)).flatten.length (List.replicate l.length z).flatten = cellsC l := by
  have e : (List.map AV.cells (List.map vcopyA l)).flatten = cellsC l := by rw [List.map_map]; rfl
  have h1 : (List.replicate l.length z).flatten.length = 4 * l.length := by simp [List.length_flatten, hz]; omega
  rw [e, List.drop_eq_nil_of_le (by rw [h1, cellsC_length]; omega)]
  simp

theorem repl_length (n : Nat) (z : List AV) (hz : z.length = 4) : (List.replicate n z).flatten.length = n * 4 := by simp [List.length_flatten, hz]

theorem lost_c (c : RChest) (hs : namesFit c) : PCall Try.prog 19 [chestA c] (.tuple [ints (lostR c).1, .int .i64 (lostR c).2]) := by
  intro m
  refine ACall.forget ?_
  have hE : enterE c [] = (checkR c).2.2 := by
    unfold enterE
    by_cases h : (checkR c).2.2 ≠ 0
    · rw [if_pos h]
    · rw [if_neg h]; simp [pairsOff]; omega
  have hR : lostR c = if (checkR c).2.2 ≠ 0 then ([], (checkR c).2.2) else (lostL c.v, 0) := rfl
  have hen := enter_c c hs [] (by simp) (by simp) m
  rw [hE] at hen
  generalize hL : lostR c = L at *
  by_cases h0 : (checkR c).2.2 ≠ 0
  · rw [if_pos h0] at hR
    generalize (checkR c).2.2 = e at *
    simp only [chestA, chestL, strs, ints, List.map_nil] at hen ⊢
    (refine acall_intro (E := env fun _ => .imm) (envOk _) rfl Try.func19 rfl Try.call19 (by kernel_rfl) (by simp [Try.ntmps19]) ?_; simp only [Try.f19];  simp (maxSteps := 4000000) only [↓VP0, ↓VP1, ↓VP2, VQ0, VQ1, VQ2, VQ3, VQ4, VT, ite_self, ite_split, Nat.reduceEqDiff, Nat.reduceAdd, Nat.reduceSub, Nat.reduceMul, Nat.reduceLeDiff, Nat.reduceLT, Nat.reduceBEq, Int.reduceLE, Int.reduceLT, Int.reduceNeg, Int.reduceAdd, Int.reduceSub, Int.reduceToNat, ↓reduceIte, reduceCtorEq])
    refine ACall.told hen ?_
    rintro r m' (⟨_, rfl, rfl⟩ | ⟨h, _⟩)
    · simp (maxSteps := 4000000) only [↓VP0, ↓VP1, ↓VP2, VQ0, VQ1, VQ2, VQ3, VQ4, VT, ite_self, ite_split, Nat.reduceEqDiff, Nat.reduceAdd, Nat.reduceSub, Nat.reduceMul, Nat.reduceLeDiff, Nat.reduceLT, Nat.reduceBEq, Int.reduceLE, Int.reduceLT, Int.reduceNeg, Int.reduceAdd, Int.reduceSub, Int.reduceToNat, ↓reduceIte, reduceCtorEq, h0]
      rw [hR]
      exact ⟨m', fun _ _ h => h, rfl, rfl⟩
    · exact absurd h h0
  · rw [if_neg h0] at hR
    have h0' : (checkR c).2.2 = 0 := by omega
    obtain ⟨e1, hv⟩ := valid_v h0'
    generalize c.v = v at *
    subst e1
    rw [vchestA_raw] at hen ⊢
    rw [h0'] at hen
    simp only [vchestA, vchestL, strs, ints, List.map_nil] at hen ⊢
    have hc6 := hv.c
    have hl30 := hv.l
    (refine acall_intro (E := env fun _ => .imm) (envOk _) rfl Try.func19 rfl Try.call19 (by kernel_rfl) (by simp [Try.ntmps19]) ?_; simp only [Try.f19];  simp (maxSteps := 4000000) only [↓VP0, ↓VP1, ↓VP2, VQ0, VQ1, VQ2, VQ3, VQ4, VT, ite_self, ite_split, Nat.reduceEqDiff, Nat.reduceAdd, Nat.reduceSub, Nat.reduceMul, Nat.reduceLeDiff, Nat.reduceLT, Nat.reduceBEq, Int.reduceLE, Int.reduceLT, Int.reduceNeg, Int.reduceAdd, Int.reduceSub, Int.reduceToNat, ↓reduceIte, reduceCtorEq])
    refine ACall.told hen ?_
    rintro r m' (⟨h, _⟩ | ⟨_, _, b, hb, rfl, rfl⟩)
    · exact absurd rfl h
    · simp (maxSteps := 4000000) only [↓VP0, ↓VP1, ↓VP2, VQ0, VQ1, VQ2, VQ3, VQ4, VT, ite_self, ite_split, Nat.reduceEqDiff, Nat.reduceAdd, Nat.reduceSub, Nat.reduceMul, Nat.reduceLeDiff, Nat.reduceLT, Nat.reduceBEq, Int.reduceLE, Int.reduceLT, Int.reduceNeg, Int.reduceAdd, Int.reduceSub, Int.reduceToNat, ↓reduceIte, reduceCtorEq]
      repeat' (first | intro _ | refine And.intro ?_ ?_)
      all_goals try (first | omega | (simp only [List.length_map, List.length_cons, List.length_nil, List.length_append, Nat.zero_add]; omega) | exact Int.natCast_nonneg _ | exact Int.le_trans (by decide) (Int.natCast_nonneg _) | exact Nat.le_of_ble_eq_true rfl)
      · rw [repl_length _ _ rfl]; exact Nat.le_refl _
      refine aloop (envOk _) (fun q : Nat × Nat => ⟨[(2, .v (ints (lostTo v q.1))), (4, .lslice 17 (q.2 * 4) (v.copies.length - q.2) (v.copies.length - q.2)), (23, .v (.int .i64 v.last)), (24, .v (.int .i64 q.1))], [2], [(17, cellsC v.copies)], upd m b (some (.map []))⟩)
        (fun q => q.1 ≤ v.last ∧ q.2 ≤ v.copies.length ∧ ∀ i, i < v.copies.length → ((v.copies[i]!).number ≤ q.1 ↔ i < q.2)) (fun q => v.last - q.1) (0, 0) (fun _ => rfl) ?_ ?_ ?_
      · refine ⟨by simp, by simp, fun i hi => ?_⟩
        obtain ⟨q1, _⟩ := hv.copy _ (List.getElem_mem hi)
        rw [getD_any hi]
        dsimp only
        omega
      · (simp only [Fits, fitsV, fitsO, fitsL, ↓upd, ↓lookV, ↓lookO, ↓lookL, Nat.reduceEqDiff, ↓reduceIte, ints, and_true, true_and, Option.some.injEq])
        rw [cells_over v.copies [.int .i64 0, .int .i64 0, .int .i64 0, .int .i64 0] rfl]
        simp [lostTo]
      · rintro ⟨k, j⟩ ⟨hk, hj, hq⟩
        dsimp only at hk hj hq
        have hlen := lostTo_length v k
        have hcl := cellsC_length v.copies
        by_cases hj2 : j < v.copies.length
        · obtain ⟨r, hdr⟩ := cellsC_head hj2
          have hnj : k < (v.copies[j]!).number := by
            have := hq j hj2
            omega
          simp (maxSteps := 4000000) only [↓VP0, ↓VP1, ↓VP2, VQ0, VQ1, VQ2, VQ3, VQ4, VT, ite_self, ite_split, Nat.reduceEqDiff, Nat.reduceAdd, Nat.reduceSub, Nat.reduceMul, Nat.reduceLeDiff, Nat.reduceLT, Nat.reduceBEq, Int.reduceLE, Int.reduceLT, Int.reduceNeg, Int.reduceAdd, Int.reduceSub, Int.reduceToNat, ↓reduceIte, reduceCtorEq, hdr]
          repeat' (first | intro _ | refine And.intro ?_ ?_)
          all_goals try (first | omega | (simp only [List.length_map, List.length_cons, List.length_nil, List.length_append, Nat.zero_add]; omega) | exact Int.natCast_nonneg _ | exact Int.le_trans (by decide) (Int.natCast_nonneg _) | exact Nat.le_of_ble_eq_true rfl)
          · have h1 : ((v.copies[j]!).number : Int) = (k : Int) + 1 := by assumption
            have hin : (k : Int) + 1 ∈ numbersL v := mem_numbers.2 ⟨j, hj2, h1⟩
            refine ⟨(k + 1, j + 1), ⟨by dsimp only; omega, by dsimp only; omega, fun i hi => ?_⟩, by dsimp only; omega, ?_⟩
            · dsimp only
              have := hq i hi
              by_cases e : i = j
              · subst e; omega
              · by_cases e2 : i < j
                · omega
                · have := rise_lt hv (i := j) (j := i) (by omega) hi
                  omega
            · (simp only [Fits, fitsV, fitsO, fitsL, ↓upd, ↓lookV, ↓lookO, ↓lookL, Nat.reduceEqDiff, ↓reduceIte, ints, and_true, true_and, Option.some.injEq])
              rw [lostTo_succ, if_pos hin]
              simp
              omega
          · have h1 : ¬ ((v.copies[j]!).number : Int) = (k : Int) + 1 := by assumption
            have hle : ∀ i, i < v.copies.length → ((v.copies[i]!).number ≤ k + 1 ↔ i < j) := fun i hi => by
              have := hq i hi
              by_cases e : i = j
              · subst e; omega
              · by_cases e2 : i < j
                · omega
                · have := rise_lt hv (i := j) (j := i) (by omega) hi
                  omega
            have hin : ¬ (k : Int) + 1 ∈ numbersL v := by
              intro h
              obtain ⟨i, hi, h⟩ := mem_numbers.1 h
              have h2 := hle i hi
              have h3 := hq i hi
              omega
            refine ⟨(k + 1, j), ⟨by dsimp only; omega, by dsimp only; omega, hle⟩, by dsimp only; omega, ?_⟩
            (simp only [Fits, fitsV, fitsO, fitsL, ↓upd, ↓lookV, ↓lookO, ↓lookL, Nat.reduceEqDiff, ↓reduceIte, ints, and_true, true_and, Option.some.injEq])
            rw [lostTo_succ, if_neg hin]
            simp
          · refine forget_fin hb ?_
            rw [hR, lostL, show v.last = k by omega]
        · simp (maxSteps := 4000000) only [↓VP0, ↓VP1, ↓VP2, VQ0, VQ1, VQ2, VQ3, VQ4, VT, ite_self, ite_split, Nat.reduceEqDiff, Nat.reduceAdd, Nat.reduceSub, Nat.reduceMul, Nat.reduceLeDiff, Nat.reduceLT, Nat.reduceBEq, Int.reduceLE, Int.reduceLT, Int.reduceNeg, Int.reduceAdd, Int.reduceSub, Int.reduceToNat, ↓reduceIte, reduceCtorEq]
          repeat' (first | intro _ | refine And.intro ?_ ?_)
          all_goals try (first | omega | (simp only [List.length_map, List.length_cons, List.length_nil, List.length_append, Nat.zero_add]; omega) | exact Int.natCast_nonneg _ | exact Int.le_trans (by decide) (Int.natCast_nonneg _) | exact Nat.le_of_ble_eq_true rfl)
          · have hin : ¬ (k : Int) + 1 ∈ numbersL v := by
              intro h
              obtain ⟨i, hi, h⟩ := mem_numbers.1 h
              have h3 := hq i hi
              omega
            refine ⟨(k + 1, j), ⟨by dsimp only; omega, by dsimp only; omega, fun i hi => ?_⟩, by dsimp only; omega, ?_⟩
            · dsimp only
              have := hq i hi
              omega
            (simp only [Fits, fitsV, fitsO, fitsL, ↓upd, ↓lookV, ↓lookO, ↓lookL, Nat.reduceEqDiff, ↓reduceIte, ints, and_true, true_and, Option.some.injEq])
            rw [lostTo_succ, if_neg hin]
            simp
          · refine forget_fin hb ?_
            rw [hR, lostL, show v.last = k by omega]

theorem reflost_c (c : RChest) (hs : namesFit c) : PCall Try.prog 20 [chestA c] (.tuple [ints (lostR c).1, .int .i64 (lostR c).2]) := by
  intro m
  have hchk := refcheck_c c hs
  have hR : lostR c = if (checkR c).2.2 ≠ 0 then ([], (checkR c).2.2) else (lostL c.v, 0) := rfl
  generalize hL : lostR c = L at *
  by_cases h0 : (checkR c).2.2 ≠ 0
  · rw [if_pos h0] at hR
    generalize (checkR c).2.2 = e at *
    simp only [chestA, chestL, strs, ints] at hchk ⊢
    (refine acall_intro (E := env fun _ => .imm) (envOk _) rfl Try.func20 rfl Try.call20 (by kernel_rfl) (by simp [Try.ntmps20]) ?_; simp only [Try.f20];  simp (maxSteps := 4000000) only [↓VP0, ↓VP1, ↓VP2, VQ0, VQ1, VQ2, VQ3, VQ4, VT, ite_self, ite_split, Nat.reduceEqDiff, Nat.reduceAdd, Nat.reduceSub, Nat.reduceMul, Nat.reduceLeDiff, Nat.reduceLT, Nat.reduceBEq, Int.reduceLE, Int.reduceLT, Int.reduceNeg, Int.reduceAdd, Int.reduceSub, Int.reduceToNat, ↓reduceIte, reduceCtorEq])
    (refine ACall.pure (hchk) ?_; try simp (maxSteps := 4000000) only [↓VP0, ↓VP1, ↓VP2, VQ0, VQ1, VQ2, VQ3, VQ4, VT, ite_self, ite_split, Nat.reduceEqDiff, Nat.reduceAdd, Nat.reduceSub, Nat.reduceMul, Nat.reduceLeDiff, Nat.reduceLT, Nat.reduceBEq, Int.reduceLE, Int.reduceLT, Int.reduceNeg, Int.reduceAdd, Int.reduceSub, Int.reduceToNat, ↓reduceIte, reduceCtorEq])
    simp (maxSteps := 4000000) only [↓VP0, ↓VP1, ↓VP2, VQ0, VQ1, VQ2, VQ3, VQ4, VT, ite_self, ite_split, Nat.reduceEqDiff, Nat.reduceAdd, Nat.reduceSub, Nat.reduceMul, Nat.reduceLeDiff, Nat.reduceLT, Nat.reduceBEq, Int.reduceLE, Int.reduceLT, Int.reduceNeg, Int.reduceAdd, Int.reduceSub, Int.reduceToNat, ↓reduceIte, reduceCtorEq, h0]
    rw [hR]
    rfl
  · rw [if_neg h0] at hR
    have h0' : (checkR c).2.2 = 0 := by omega
    obtain ⟨e1, hv⟩ := valid_v h0'
    rw [h0'] at hchk
    clear hs h0 h0' hL
    generalize c.v = v at *
    subst e1
    rw [vchestA_raw] at hchk ⊢
    have hn := numbers_c v hv
    have hl30 := hv.l
    simp only [vchestA, vchestL, strs, ints] at hchk hn ⊢
    (refine acall_intro (E := env fun _ => .imm) (envOk _) rfl Try.func20 rfl Try.call20 (by kernel_rfl) (by simp [Try.ntmps20]) ?_; simp only [Try.f20];  simp (maxSteps := 4000000) only [↓VP0, ↓VP1, ↓VP2, VQ0, VQ1, VQ2, VQ3, VQ4, VT, ite_self, ite_split, Nat.reduceEqDiff, Nat.reduceAdd, Nat.reduceSub, Nat.reduceMul, Nat.reduceLeDiff, Nat.reduceLT, Nat.reduceBEq, Int.reduceLE, Int.reduceLT, Int.reduceNeg, Int.reduceAdd, Int.reduceSub, Int.reduceToNat, ↓reduceIte, reduceCtorEq])
    (refine ACall.pure (hchk) ?_; try simp (maxSteps := 4000000) only [↓VP0, ↓VP1, ↓VP2, VQ0, VQ1, VQ2, VQ3, VQ4, VT, ite_self, ite_split, Nat.reduceEqDiff, Nat.reduceAdd, Nat.reduceSub, Nat.reduceMul, Nat.reduceLeDiff, Nat.reduceLT, Nat.reduceBEq, Int.reduceLE, Int.reduceLT, Int.reduceNeg, Int.reduceAdd, Int.reduceSub, Int.reduceToNat, ↓reduceIte, reduceCtorEq])
    refine aloop (envOk _) (fun k : Nat => ⟨[(1, .v (.eptr [.int .i64 v.words, .int .i64 v.facts, .slice 1 (v.people.map AV.str), .int .i64 v.last, .slice 4 (v.copies.map vcopyA), .slice 2 (v.rules.map vruleA)])), (7, .v (ints (lostTo v k))), (8, .v (.int .i64 ((k : Int) + 1)))], [7], [], m⟩)
      (fun k => k ≤ v.last) (fun k => v.last - k) 0 (fun _ => rfl) (by simp) (by (simp only [Fits, fitsV, fitsO, fitsL, ↓upd, ↓lookV, ↓lookO, ↓lookL, Nat.reduceEqDiff, ↓reduceIte, ints, and_true, true_and, Option.some.injEq]); simp [lostTo]) ?_
    intro k hk
    have hlen := lostTo_length v k
    simp (maxSteps := 4000000) only [↓VP0, ↓VP1, ↓VP2, VQ0, VQ1, VQ2, VQ3, VQ4, VT, ite_self, ite_split, Nat.reduceEqDiff, Nat.reduceAdd, Nat.reduceSub, Nat.reduceMul, Nat.reduceLeDiff, Nat.reduceLT, Nat.reduceBEq, Int.reduceLE, Int.reduceLT, Int.reduceNeg, Int.reduceAdd, Int.reduceSub, Int.reduceToNat, ↓reduceIte, reduceCtorEq]
    repeat' (first | intro _ | refine And.intro ?_ ?_)
    all_goals try (first | omega | (simp only [List.length_map, List.length_cons, List.length_nil, List.length_append, Nat.zero_add]; omega) | exact Int.natCast_nonneg _ | exact Int.le_trans (by decide) (Int.natCast_nonneg _) | exact Nat.le_of_ble_eq_true rfl)
    · (refine ACall.pure (hn) ?_; try simp (maxSteps := 4000000) only [↓VP0, ↓VP1, ↓VP2, VQ0, VQ1, VQ2, VQ3, VQ4, VT, ite_self, ite_split, Nat.reduceEqDiff, Nat.reduceAdd, Nat.reduceSub, Nat.reduceMul, Nat.reduceLeDiff, Nat.reduceLT, Nat.reduceBEq, Int.reduceLE, Int.reduceLT, Int.reduceNeg, Int.reduceAdd, Int.reduceSub, Int.reduceToNat, ↓reduceIte, reduceCtorEq])
      (refine ACall.pure (has_c (numbersL v) ((k : Int) + 1)) ?_; try simp (maxSteps := 4000000) only [↓VP0, ↓VP1, ↓VP2, VQ0, VQ1, VQ2, VQ3, VQ4, VT, ite_self, ite_split, Nat.reduceEqDiff, Nat.reduceAdd, Nat.reduceSub, Nat.reduceMul, Nat.reduceLeDiff, Nat.reduceLT, Nat.reduceBEq, Int.reduceLE, Int.reduceLT, Int.reduceNeg, Int.reduceAdd, Int.reduceSub, Int.reduceToNat, ↓reduceIte, reduceCtorEq])
      repeat' (first | intro _ | refine And.intro ?_ ?_)
      all_goals try (first | omega | (simp only [List.length_map, List.length_cons, List.length_nil, List.length_append, Nat.zero_add]; omega) | exact Int.natCast_nonneg _ | exact Int.le_trans (by decide) (Int.natCast_nonneg _) | exact Nat.le_of_ble_eq_true rfl)
      · have h1 : ¬ (k : Int) + 1 ∈ numbersL v := by assumption
        refine ⟨k + 1, by dsimp only; omega, by dsimp only; omega, ?_⟩
        (simp only [Fits, fitsV, fitsO, fitsL, ↓upd, ↓lookV, ↓lookO, ↓lookL, Nat.reduceEqDiff, ↓reduceIte, ints, and_true, true_and, Option.some.injEq])
        rw [lostTo_succ, if_neg h1]
        simp
      · have h1 : (k : Int) + 1 ∈ numbersL v := by apply Decidable.byContradiction; assumption
        refine ⟨k + 1, by dsimp only; omega, by dsimp only; omega, ?_⟩
        (simp only [Fits, fitsV, fitsO, fitsL, ↓upd, ↓lookV, ↓lookO, ↓lookL, Nat.reduceEqDiff, ↓reduceIte, ints, and_true, true_and, Option.some.injEq])
        rw [lostTo_succ, if_pos h1]
        simp
    · rw [hR, lostL, show v.last = k by omega]
end Go.Proofs.Ytakkdmdkelbnjaa.Abs

/- Laws: sets and lists of numbers. -/
namespace Go.Proofs.Ytakkdmdkelbnjaa.Abs
set_option linter.unusedSimpArgs false
open Go Go.RowKit Go.Proofs

theorem bitsS_bit : ∀ (l : List Int) (i : Nat), (bitsS l).testBit i = l.any fun x => decide (x.toNat = i)
  | [], i => by simp [bitsS]
  | x :: l, i => by
    rw [bitsS, Nat.testBit_or, bitsS_bit l i, Nat.testBit_two_pow, List.any_cons]

theorem subS_bits (l : List Int) (w : Nat) : subS (bitsS l) w = l.all fun x => w.testBit x.toNat := by
  rw [Bool.eq_iff_iff, subS_iff, List.all_eq_true]
  constructor
  · intro h x hx
    exact h _ (by rw [bitsS_bit, List.any_eq_true]; exact ⟨x, hx, by simp⟩)
  · intro h i hi
    rw [bitsS_bit, List.any_eq_true] at hi
    obtain ⟨x, hx, e⟩ := hi
    rw [decide_eq_true_eq] at e
    rw [← e]; exact h x hx

theorem filter_range_le (f : Nat → Bool) (n : Nat) : ∀ m, n ≤ m → (List.range m).filter (fun i => decide (i < n) && f i) = (List.range n).filter f
  | 0, h => by rw [show n = 0 by omega]; rfl
  | m + 1, h => by
    by_cases e : n = m + 1
    · rw [e]
      refine List.filter_congr fun i hi => ?_
      simp [List.mem_range.1 hi]
    · rw [List.range_succ, List.filter_append, filter_range_le f n m (by omega)]
      have : ¬ m < n := by omega
      simp [this]

theorem list_setOf (f : Nat → Bool) (n : Nat) (h : n ≤ 62) : listS (setOf f n) = ((List.range n).filter f).map fun (i : Nat) => (i : Int) := by
  unfold listS listTo
  congr 1
  rw [← filter_range_le f n 62 h]
  exact List.filter_congr fun i _ => setOf_bit f i n

theorem foundL_range (v : VChest) (p : Int) (l : List Int) : foundL v p l = ((List.range v.copies.length).filter fun i => (v.copies[i]!).may.testBit p.toNat && wordedB (v.copies[i]!) l).map fun (i : Nat) => (i : Int) := by
  unfold foundL ownL ownTo
  rw [List.filter_map, List.filter_filter]
  congr 1
  refine List.filter_congr fun i _ => ?_
  simp [Bool.and_comm]

theorem viewS_bit (v : VChest) (p i : Nat) (hp : p < v.people.length) : (viewS v p).testBit i = (decide (i < v.copies.length) && (v.copies[i]!).may.testBit p) := by
  unfold viewS; rw [if_pos hp, setOf_bit]

theorem found_find (v : VChest) (hv : VOk v) (p : Nat) (l : List Int) (hp : p < v.people.length) : listS (findS v p (bitsS l)) = foundL v p l := by
  unfold findS
  rw [list_setOf _ _ (by have := hv.c; omega), foundL_range]
  congr 1
  refine List.filter_congr fun i hi => ?_
  rw [viewS_bit v p i hp, subS_bits]
  simp only [List.mem_range] at hi
  simp [hi, wordedB]
end Go.Proofs.Ytakkdmdkelbnjaa.Abs

/- Contracts: Find. -/
namespace Go.Proofs.Ytakkdmdkelbnjaa.Abs
set_option linter.unusedSimpArgs false
set_option maxHeartbeats 4000000
set_option maxRecDepth 100000
open Go Go.RowKit Go.Proofs

/-- What is wrong with a list that is to be rising, below a number. -/
def listE (l : List Int) (under : Int) : Int := if l.any (offP 0 (under - 1)) = true then 4 else if risingL under (-1) l = true then 0 else 2

theorem bitsR_snd (l : List Int) (u : Int) : (bitsR l u).2 = listE l u := by
  unfold bitsR listE; split
  · rfl
  · split <;> rfl
theorem bitsR_fst (l : List Int) (u : Int) (h : listE l u = 0) : (bitsR l u).1 = bitsS l := by
  unfold listE at h; unfold bitsR
  split at h
  · cases h
  · rename_i h1
    split at h
    · rename_i h2; rw [if_neg h1, if_pos h2]
    · cases h

theorem askedR_eq (e n below : Int) (l : List Int) (under : Int) : askedR e n below l under = if e ≠ 0 then e else if offP 0 (below - 1) n = true then 4 else listE l under := rfl

theorem listE_zero {l : List Int} {u : Int} (h : listE l u = 0) : (∀ x ∈ l, 0 ≤ x ∧ x < u) ∧ risingL u (-1) l = true := by
  unfold listE at h
  split at h
  · cases h
  · rename_i h1
    split at h
    · rename_i h2
      refine ⟨fun x hx => ?_, h2⟩
      have := mt (fun h => List.any_eq_true.2 ⟨x, hx, h⟩) h1
      simp [offP] at this
      omega
    · cases h

theorem enterE_two (c : RChest) (n b : Int) : enterE c [n, b] = if (checkR c).2.2 ≠ 0 then (checkR c).2.2 else if offP 0 (b - 1) n = true then 4 else 0 := by
  unfold enterE pairsOff pairsOff
  simp

/-- What Find hands back. -/
def findR (c : RChest) (p : Int) (l : List Int) : List Int × Int :=
  if askedR (checkR c).2.2 p c.people.length l c.words ≠ 0 then ([], askedR (checkR c).2.2 p c.people.length l c.words) else (foundL c.v p l, 0)

theorem find_top (c : RChest) (hs : namesFit c) (p : Int) (l : List Int) (hpl : c.people.length ≤ 9223372036854775807) : PCall Try.prog 22 [chestA c, .int .i64 p, ints l] (.tuple [ints (findR c p l).1, .int .i64 (findR c p l).2]) := by
  intro m
  refine ACall.forget ?_
  have hR : findR c p l = if askedR (checkR c).2.2 p c.people.length l c.words ≠ 0 then ([], askedR (checkR c).2.2 p c.people.length l c.words) else (foundL c.v p l, 0) := rfl
  have hen := enter_c c hs [p, c.people.length] (by simp) (by intro _ j hj; have : j = 0 := by simp at hj; omega
                                                              subst this; simp; omega) m
  rw [enterE_two] at hen
  rw [askedR_eq] at hR
  generalize hL : findR c p l = L at *
  by_cases h0 : (if (checkR c).2.2 ≠ 0 then (checkR c).2.2 else if offP 0 ((c.people.length : Int) - 1) p = true then 4 else 0) ≠ 0
  · have hR' : L = ([], if (checkR c).2.2 ≠ 0 then (checkR c).2.2 else if offP 0 ((c.people.length : Int) - 1) p = true then 4 else 0) := by
      rw [hR]
      by_cases q1 : (checkR c).2.2 ≠ 0
      · simp only [if_pos q1]
      · simp only [if_neg q1] at h0 ⊢
        by_cases q2 : offP 0 ((c.people.length : Int) - 1) p = true
        · simp only [if_pos q2]; rfl
        · simp only [if_neg q2] at h0; exact absurd rfl h0
    clear hR
    generalize (if (checkR c).2.2 ≠ 0 then (checkR c).2.2 else if offP 0 ((c.people.length : Int) - 1) p = true then 4 else 0) = e at *
    simp only [chestA, chestL, strs, ints, List.map_nil, List.map_cons] at hen ⊢
    (refine acall_intro (E := env fun _ => .imm) (envOk _) rfl Try.func22 rfl Try.call22 (by kernel_rfl) (by simp [Try.ntmps22]) ?_; simp only [Try.f22];  simp (maxSteps := 4000000) only [↓VP0, ↓VP1, ↓VP2, VQ0, VQ1, VQ2, VQ3, VQ4, VT, ite_self, ite_split, Nat.reduceEqDiff, Nat.reduceAdd, Nat.reduceSub, Nat.reduceMul, Nat.reduceLeDiff, Nat.reduceLT, Nat.reduceBEq, Int.reduceLE, Int.reduceLT, Int.reduceNeg, Int.reduceAdd, Int.reduceSub, Int.reduceToNat, ↓reduceIte, reduceCtorEq])
    repeat' (first | intro _ | refine And.intro ?_ ?_)
    refine ACall.told hen ?_
    rintro r m' (⟨_, rfl, rfl⟩ | ⟨h, _⟩)
    · simp (maxSteps := 4000000) only [↓VP0, ↓VP1, ↓VP2, VQ0, VQ1, VQ2, VQ3, VQ4, VT, ite_self, ite_split, Nat.reduceEqDiff, Nat.reduceAdd, Nat.reduceSub, Nat.reduceMul, Nat.reduceLeDiff, Nat.reduceLT, Nat.reduceBEq, Int.reduceLE, Int.reduceLT, Int.reduceNeg, Int.reduceAdd, Int.reduceSub, Int.reduceToNat, ↓reduceIte, reduceCtorEq, h0]
      rw [hR']
      exact ⟨m', fun _ _ h => h, rfl, rfl⟩
    · exact absurd h h0
  · have h0' : (checkR c).2.2 = 0 := by
      by_cases q1 : (checkR c).2.2 ≠ 0
      · simp only [if_pos q1] at h0; omega
      · omega
    have hoff : offP 0 ((c.people.length : Int) - 1) p = false := by
      by_cases q2 : offP 0 ((c.people.length : Int) - 1) p = true
      · simp [h0', q2] at h0
      · simpa using q2
    obtain ⟨e1, hv⟩ := valid_v h0'
    simp only [h0', hoff, ne_eq, not_true_eq_false, if_false, Bool.false_eq_true] at hen hR
    clear hs h0 h0' hL
    generalize c.v = v at *
    subst e1
    rw [vchestA_raw] at hen ⊢
    have hoff' : offP 0 ((v.people.length : Int) - 1) p = false := hoff
    rw [offP_false] at hoff'
    have hR' : L = if listE l v.words ≠ 0 then ([], listE l v.words) else (foundL v p l, 0) := hR
    have hw5 := hv.w
    have hp3 := hv.p
    have hbits := bits_c l v.words (by omega) (by omega)
    rw [bitsR_snd] at hbits
    have hpn : p = ((p.toNat : Nat) : Int) := by omega
    clear hR hoff hpl
    by_cases h4 : listE l v.words ≠ 0
    · rw [if_pos h4] at hR'
      generalize (bitsR l v.words).1 = w at *
      generalize listE l v.words = e at *
      simp only [vchestA, vchestL, strs, ints, List.map_nil, List.map_cons, VChest.raw] at hen hbits ⊢
      (refine acall_intro (E := env fun _ => .imm) (envOk _) rfl Try.func22 rfl Try.call22 (by kernel_rfl) (by simp [Try.ntmps22]) ?_; simp only [Try.f22];  simp (maxSteps := 4000000) only [↓VP0, ↓VP1, ↓VP2, VQ0, VQ1, VQ2, VQ3, VQ4, VT, ite_self, ite_split, Nat.reduceEqDiff, Nat.reduceAdd, Nat.reduceSub, Nat.reduceMul, Nat.reduceLeDiff, Nat.reduceLT, Nat.reduceBEq, Int.reduceLE, Int.reduceLT, Int.reduceNeg, Int.reduceAdd, Int.reduceSub, Int.reduceToNat, ↓reduceIte, reduceCtorEq])
      repeat' (first | intro _ | refine And.intro ?_ ?_)
      refine ACall.told hen ?_
      rintro r m' (⟨h, _⟩ | ⟨_, _, b, hb, rfl, rfl⟩)
      · exact h.elim
      · simp (maxSteps := 4000000) only [↓VP0, ↓VP1, ↓VP2, VQ0, VQ1, VQ2, VQ3, VQ4, VT, ite_self, ite_split, Nat.reduceEqDiff, Nat.reduceAdd, Nat.reduceSub, Nat.reduceMul, Nat.reduceLeDiff, Nat.reduceLT, Nat.reduceBEq, Int.reduceLE, Int.reduceLT, Int.reduceNeg, Int.reduceAdd, Int.reduceSub, Int.reduceToNat, ↓reduceIte, reduceCtorEq]
        (refine ACall.pure (hbits) ?_; try simp (maxSteps := 4000000) only [↓VP0, ↓VP1, ↓VP2, VQ0, VQ1, VQ2, VQ3, VQ4, VT, ite_self, ite_split, Nat.reduceEqDiff, Nat.reduceAdd, Nat.reduceSub, Nat.reduceMul, Nat.reduceLeDiff, Nat.reduceLT, Nat.reduceBEq, Int.reduceLE, Int.reduceLT, Int.reduceNeg, Int.reduceAdd, Int.reduceSub, Int.reduceToNat, ↓reduceIte, reduceCtorEq])
        simp (maxSteps := 4000000) only [↓VP0, ↓VP1, ↓VP2, VQ0, VQ1, VQ2, VQ3, VQ4, VT, ite_self, ite_split, Nat.reduceEqDiff, Nat.reduceAdd, Nat.reduceSub, Nat.reduceMul, Nat.reduceLeDiff, Nat.reduceLT, Nat.reduceBEq, Int.reduceLE, Int.reduceLT, Int.reduceNeg, Int.reduceAdd, Int.reduceSub, Int.reduceToNat, ↓reduceIte, reduceCtorEq, h4]
        refine forget_fin hb ?_
        rw [hR']; rfl
    · rw [if_neg h4] at hR'
      have h4' : listE l v.words = 0 := by omega
      rw [bitsR_fst l _ h4', h4'] at hbits
      obtain ⟨r1, r2⟩ := listE_zero h4'
      have hbl : bitsS l < 2 ^ 60 := (bitsS_lt (b := 60) fun x hx => by have := r1 x hx; omega).resolve_right (by simp)
      have hff := found_find v hv p.toNat l (by omega)
      rw [← hpn] at hff
      have hfl : findS v p.toNat (bitsS l) < 2 ^ 62 := Nat.lt_of_lt_of_le (setOf_lt _ _) (Nat.pow_le_pow_right (by decide) (by have := hv.c; omega))
      have hlist := list_c (findS v p.toNat (bitsS l)) hfl
      rw [hff] at hlist
      simp only [vchestA, vchestL, strs, ints, List.map_nil, List.map_cons, VChest.raw] at hen hbits hlist ⊢
      (refine acall_intro (E := env fun _ => .imm) (envOk _) rfl Try.func22 rfl Try.call22 (by kernel_rfl) (by simp [Try.ntmps22]) ?_; simp only [Try.f22];  simp (maxSteps := 4000000) only [↓VP0, ↓VP1, ↓VP2, VQ0, VQ1, VQ2, VQ3, VQ4, VT, ite_self, ite_split, Nat.reduceEqDiff, Nat.reduceAdd, Nat.reduceSub, Nat.reduceMul, Nat.reduceLeDiff, Nat.reduceLT, Nat.reduceBEq, Int.reduceLE, Int.reduceLT, Int.reduceNeg, Int.reduceAdd, Int.reduceSub, Int.reduceToNat, ↓reduceIte, reduceCtorEq])
      repeat' (first | intro _ | refine And.intro ?_ ?_)
      refine ACall.told hen ?_
      rintro r m' (⟨h, _⟩ | ⟨_, _, b, hb, rfl, rfl⟩)
      · exact h.elim
      · have hfind := find_c v b p.toNat (bitsS l) hv (by omega) hbl
        rw [← hpn] at hfind
        simp (maxSteps := 4000000) only [↓VP0, ↓VP1, ↓VP2, VQ0, VQ1, VQ2, VQ3, VQ4, VT, ite_self, ite_split, Nat.reduceEqDiff, Nat.reduceAdd, Nat.reduceSub, Nat.reduceMul, Nat.reduceLeDiff, Nat.reduceLT, Nat.reduceBEq, Int.reduceLE, Int.reduceLT, Int.reduceNeg, Int.reduceAdd, Int.reduceSub, Int.reduceToNat, ↓reduceIte, reduceCtorEq]
        (refine ACall.pure (hbits) ?_; try simp (maxSteps := 4000000) only [↓VP0, ↓VP1, ↓VP2, VQ0, VQ1, VQ2, VQ3, VQ4, VT, ite_self, ite_split, Nat.reduceEqDiff, Nat.reduceAdd, Nat.reduceSub, Nat.reduceMul, Nat.reduceLeDiff, Nat.reduceLT, Nat.reduceBEq, Int.reduceLE, Int.reduceLT, Int.reduceNeg, Int.reduceAdd, Int.reduceSub, Int.reduceToNat, ↓reduceIte, reduceCtorEq])
        (refine ACall.pure (hfind) ?_; try simp (maxSteps := 4000000) only [↓VP0, ↓VP1, ↓VP2, VQ0, VQ1, VQ2, VQ3, VQ4, VT, ite_self, ite_split, Nat.reduceEqDiff, Nat.reduceAdd, Nat.reduceSub, Nat.reduceMul, Nat.reduceLeDiff, Nat.reduceLT, Nat.reduceBEq, Int.reduceLE, Int.reduceLT, Int.reduceNeg, Int.reduceAdd, Int.reduceSub, Int.reduceToNat, ↓reduceIte, reduceCtorEq])
        (refine ACall.pure (hlist) ?_; try simp (maxSteps := 4000000) only [↓VP0, ↓VP1, ↓VP2, VQ0, VQ1, VQ2, VQ3, VQ4, VT, ite_self, ite_split, Nat.reduceEqDiff, Nat.reduceAdd, Nat.reduceSub, Nat.reduceMul, Nat.reduceLeDiff, Nat.reduceLT, Nat.reduceBEq, Int.reduceLE, Int.reduceLT, Int.reduceNeg, Int.reduceAdd, Int.reduceSub, Int.reduceToNat, ↓reduceIte, reduceCtorEq])
        refine forget_fin hb ?_
        rw [hR']

theorem reffind_top (c : RChest) (hs : namesFit c) (p : Int) (l : List Int) (hl : ∀ w ∈ l, w ≤ 9223372036854775807) (hp : p ≤ 9223372036854775807) :
    PCall Try.prog 23 [chestA c, .int .i64 p, ints l] (.tuple [ints (findR c p l).1, .int .i64 (findR c p l).2]) := by
  intro m
  have hask := asked_c c hs p c.people.length l c.words fun h => by
    obtain ⟨h1, h2, _⟩ := checkR_parts h
    simp only [Bool.or_eq_false_iff, offP_false] at h1
    omega
  have hR : findR c p l = if askedR (checkR c).2.2 p c.people.length l c.words ≠ 0 then ([], askedR (checkR c).2.2 p c.people.length l c.words) else (foundL c.v p l, 0) := rfl
  generalize hL : findR c p l = L at *
  by_cases h0 : askedR (checkR c).2.2 p c.people.length l c.words ≠ 0
  · rw [if_pos h0] at hR
    generalize askedR (checkR c).2.2 p c.people.length l c.words = e at *
    simp only [chestA, chestL, strs, ints] at hask ⊢
    (refine acall_intro (E := env fun _ => .imm) (envOk _) rfl Try.func23 rfl Try.call23 (by kernel_rfl) (by simp [Try.ntmps23]) ?_; simp only [Try.f23];  simp (maxSteps := 4000000) only [↓VP0, ↓VP1, ↓VP2, VQ0, VQ1, VQ2, VQ3, VQ4, VT, ite_self, ite_split, Nat.reduceEqDiff, Nat.reduceAdd, Nat.reduceSub, Nat.reduceMul, Nat.reduceLeDiff, Nat.reduceLT, Nat.reduceBEq, Int.reduceLE, Int.reduceLT, Int.reduceNeg, Int.reduceAdd, Int.reduceSub, Int.reduceToNat, ↓reduceIte, reduceCtorEq])
    repeat' (first | intro _ | refine And.intro ?_ ?_)
    (refine ACall.pure (hask) ?_; try simp (maxSteps := 4000000) only [↓VP0, ↓VP1, ↓VP2, VQ0, VQ1, VQ2, VQ3, VQ4, VT, ite_self, ite_split, Nat.reduceEqDiff, Nat.reduceAdd, Nat.reduceSub, Nat.reduceMul, Nat.reduceLeDiff, Nat.reduceLT, Nat.reduceBEq, Int.reduceLE, Int.reduceLT, Int.reduceNeg, Int.reduceAdd, Int.reduceSub, Int.reduceToNat, ↓reduceIte, reduceCtorEq])
    simp (maxSteps := 4000000) only [↓VP0, ↓VP1, ↓VP2, VQ0, VQ1, VQ2, VQ3, VQ4, VT, ite_self, ite_split, Nat.reduceEqDiff, Nat.reduceAdd, Nat.reduceSub, Nat.reduceMul, Nat.reduceLeDiff, Nat.reduceLT, Nat.reduceBEq, Int.reduceLE, Int.reduceLT, Int.reduceNeg, Int.reduceAdd, Int.reduceSub, Int.reduceToNat, ↓reduceIte, reduceCtorEq, h0]
    rw [hR]
    rfl
  · rw [if_neg h0] at hR
    have h0' : (checkR c).2.2 = 0 := by
      rw [askedR_eq] at h0
      by_cases q1 : (checkR c).2.2 ≠ 0
      · rw [if_pos q1] at h0; exact absurd q1 h0
      · omega
    have h0'' : askedR (checkR c).2.2 p c.people.length l c.words = 0 := by omega
    rw [h0''] at hask
    obtain ⟨e1, hv⟩ := valid_v h0'
    clear hs h0 h0' h0'' hL
    generalize c.v = v at *
    subst e1
    rw [vchestA_raw] at hask ⊢
    have hf := found_c v hv p l hp hl
    simp only [vchestA, vchestL, strs, ints, VChest.raw] at hask hf ⊢
    (refine acall_intro (E := env fun _ => .imm) (envOk _) rfl Try.func23 rfl Try.call23 (by kernel_rfl) (by simp [Try.ntmps23]) ?_; simp only [Try.f23];  simp (maxSteps := 4000000) only [↓VP0, ↓VP1, ↓VP2, VQ0, VQ1, VQ2, VQ3, VQ4, VT, ite_self, ite_split, Nat.reduceEqDiff, Nat.reduceAdd, Nat.reduceSub, Nat.reduceMul, Nat.reduceLeDiff, Nat.reduceLT, Nat.reduceBEq, Int.reduceLE, Int.reduceLT, Int.reduceNeg, Int.reduceAdd, Int.reduceSub, Int.reduceToNat, ↓reduceIte, reduceCtorEq])
    repeat' (first | intro _ | refine And.intro ?_ ?_)
    (refine ACall.pure (hask) ?_; try simp (maxSteps := 4000000) only [↓VP0, ↓VP1, ↓VP2, VQ0, VQ1, VQ2, VQ3, VQ4, VT, ite_self, ite_split, Nat.reduceEqDiff, Nat.reduceAdd, Nat.reduceSub, Nat.reduceMul, Nat.reduceLeDiff, Nat.reduceLT, Nat.reduceBEq, Int.reduceLE, Int.reduceLT, Int.reduceNeg, Int.reduceAdd, Int.reduceSub, Int.reduceToNat, ↓reduceIte, reduceCtorEq])
    (refine ACall.pure (hf) ?_; try simp (maxSteps := 4000000) only [↓VP0, ↓VP1, ↓VP2, VQ0, VQ1, VQ2, VQ3, VQ4, VT, ite_self, ite_split, Nat.reduceEqDiff, Nat.reduceAdd, Nat.reduceSub, Nat.reduceMul, Nat.reduceLeDiff, Nat.reduceLT, Nat.reduceBEq, Int.reduceLE, Int.reduceLT, Int.reduceNeg, Int.reduceAdd, Int.reduceSub, Int.reduceToNat, ↓reduceIte, reduceCtorEq])
    rw [hR]
    try rfl
end Go.Proofs.Ytakkdmdkelbnjaa.Abs
