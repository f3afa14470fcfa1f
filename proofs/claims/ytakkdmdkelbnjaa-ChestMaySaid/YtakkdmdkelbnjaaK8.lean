/- Lemmas for the statements of this seat (K8): they hold without conditions beyond those that each one states. -/
import Derived.Test.YtakkdmdkelbnjaaK7
import Derived.Test.YtakkdmdkelbnjaaK7
import Derived.Test.YtakkdmdkelbnjaaK7
/- Laws: sets in their order, lists of choices. -/
namespace Go.Proofs.Ytakkdmdkelbnjaa.Abs
set_option linter.unusedSimpArgs false
open Go Go.RowKit Go.Proofs

/-- The set of the things that a list of indices picks. -/
def pickSet (t : List Nat) (ch : List Int) : Nat := ch.foldl (fun s i => s ||| 2 ^ t[i.toNat]!) 0

theorem cc0  (many : Nat) (h : many ≤ 0) : combos [] many 0 0 = (choicesL 0 many).map (pickSet []) := by
  have hd : many = 0 := by omega
  rcases hd with rfl
  · rfl
theorem cc1 (a : Nat) (many : Nat) (h : many ≤ 1) : combos [a] many 0 0 = (choicesL 1 many).map (pickSet [a]) := by
  have hd : many = 0 ∨ many = 1 := by omega
  rcases hd with rfl | rfl
  · rfl
  · rfl
theorem cc2 (a b : Nat) (many : Nat) (h : many ≤ 2) : combos [a, b] many 0 0 = (choicesL 2 many).map (pickSet [a, b]) := by
  have hd : many = 0 ∨ many = 1 ∨ many = 2 := by omega
  rcases hd with rfl | rfl | rfl
  · rfl
  · rfl
  · rfl
theorem cc3 (a b c : Nat) (many : Nat) (h : many ≤ 3) : combos [a, b, c] many 0 0 = (choicesL 3 many).map (pickSet [a, b, c]) := by
  have hd : many = 0 ∨ many = 1 ∨ many = 2 ∨ many = 3 := by omega
  rcases hd with rfl | rfl | rfl | rfl
  · rfl
  · rfl
  · rfl
  · rfl
theorem cc4 (a b c d : Nat) (many : Nat) (h : many ≤ 4) : combos [a, b, c, d] many 0 0 = (choicesL 4 many).map (pickSet [a, b, c, d]) := by
  have hd : many = 0 ∨ many = 1 ∨ many = 2 ∨ many = 3 ∨ many = 4 := by omega
  rcases hd with rfl | rfl | rfl | rfl | rfl
  · rfl
  · rfl
  · rfl
  · rfl
  · rfl
theorem cc5 (a b c d e : Nat) (many : Nat) (h : many ≤ 5) : combos [a, b, c, d, e] many 0 0 = (choicesL 5 many).map (pickSet [a, b, c, d, e]) := by
  have hd : many = 0 ∨ many = 1 ∨ many = 2 ∨ many = 3 ∨ many = 4 ∨ many = 5 := by omega
  rcases hd with rfl | rfl | rfl | rfl | rfl | rfl
  · rfl
  · rfl
  · rfl
  · rfl
  · rfl
  · rfl
theorem cc6 (a b c d e f : Nat) (many : Nat) (h : many ≤ 6) : combos [a, b, c, d, e, f] many 0 0 = (choicesL 6 many).map (pickSet [a, b, c, d, e, f]) := by
  have hd : many = 0 ∨ many = 1 ∨ many = 2 ∨ many = 3 ∨ many = 4 ∨ many = 5 ∨ many = 6 := by omega
  rcases hd with rfl | rfl | rfl | rfl | rfl | rfl | rfl
  · rfl
  · rfl
  · rfl
  · rfl
  · rfl
  · rfl
  · rfl

theorem combos_choices : ∀ (t : List Nat), t.length ≤ 6 → ∀ many ≤ t.length, combos t many 0 0 = (choicesL t.length many).map (pickSet t)
  | [], _, many, h => cc0  many h
  | [a], _, many, h => cc1 a many h
  | [a, b], _, many, h => cc2 a b many h
  | [a, b, c], _, many, h => cc3 a b c many h
  | [a, b, c, d], _, many, h => cc4 a b c d many h
  | [a, b, c, d, e], _, many, h => cc5 a b c d e many h
  | [a, b, c, d, e, f], _, many, h => cc6 a b c d e f many h
  | _ :: _ :: _ :: _ :: _ :: _ :: _ :: _, h, _, _ => by simp at h

/-- Lists of indices, the fewest first. -/
def allCh (n upto : Nat) : List (List Int) := (List.range upto).flatMap (choicesL n)

theorem someL_map (t : List Nat) (ht : t.length ≤ 6) : someL t = (allCh t.length (t.length + 1)).map (pickSet t) := by
  unfold someL allCh
  rw [List.map_flatMap]
  have : ∀ l : List Nat, (∀ x ∈ l, x ≤ t.length) → l.flatMap (fun many => combos t many 0 0) = l.flatMap fun many => (choicesL t.length many).map (pickSet t) := by
    intro l
    induction l with
    | nil => intro _; rfl
    | cons x l ih =>
      intro h
      rw [List.flatMap_cons, List.flatMap_cons, ih fun y hy => h y (by simp [hy]), combos_choices t ht x (h x (by simp))]
  exact this _ fun x hx => by have := List.mem_range.1 hx; omega

/-- The first choice that is wanted. -/
def searchL (n upto : Nat) (q : List Int → Bool) : Option (List Int) := (allCh n upto).find? q

theorem firstL_search (t : List Nat) (ht : t.length ≤ 6) (p : Nat → Bool) : firstL t p = match searchL t.length (t.length + 1) (fun ch => p (pickSet t ch)) with
    | some ch => (listS (pickSet t ch), true)
    | none => ([], false) := by
  unfold firstL searchL
  rw [someL_map t ht, List.find?_map]
  have : (p ∘ pickSet t) = fun ch => p (pickSet t ch) := rfl
  rw [this]
  cases (allCh t.length (t.length + 1)).find? fun ch => p (pickSet t ch) <;> rfl

def ascB : List Int → Bool
  | x :: y :: r => decide (x < y) && ascB (y :: r)
  | _ => true

theorem choices_asc_all : ((List.range 7).all fun b => (List.range 7).all fun i => (choicesL b i).all ascB) = true := by kernel_rfl

theorem choices_asc {b i : Nat} (hb : b ≤ 6) (hi : i ≤ 6) {l : List Int} (h : l ∈ choicesL b i) : ascB l = true := by
  have h1 := List.all_eq_true.1 choices_asc_all b (List.mem_range.2 (by omega))
  have h2 := List.all_eq_true.1 h1 i (List.mem_range.2 (by omega))
  exact List.all_eq_true.1 h2 l h

theorem ascB_pair : ∀ {l : List Int}, ascB l = true → l.Pairwise (· < ·)
  | [], _ => List.Pairwise.nil
  | [x], _ => by simp
  | x :: y :: r, h => by
    simp only [ascB, Bool.and_eq_true, decide_eq_true_eq] at h
    have ih := ascB_pair h.2
    refine List.Pairwise.cons (fun z hz => ?_) ih
    rcases List.mem_cons.1 hz with rfl | hz
    · exact h.1
    · have := (List.pairwise_cons.1 ih).1 z hz
      omega

theorem pair_ext : ∀ {a b : List Int}, a.Pairwise (· < ·) → b.Pairwise (· < ·) → (∀ x, x ∈ a ↔ x ∈ b) → a = b
  | [], [], _, _, _ => rfl
  | [], y :: b, _, _, h => by have := (h y).2 (by simp); simp at this
  | x :: a, [], _, _, h => by have := (h x).1 (by simp); simp at this
  | x :: a, y :: b, ha, hb, h => by
    rw [List.pairwise_cons] at ha hb
    have e : x = y := by
      have h1 := (h x).1 (by simp)
      have h2 := (h y).2 (by simp)
      rcases List.mem_cons.1 h1 with e | h1
      · exact e
      · rcases List.mem_cons.1 h2 with e | h2
        · exact e.symm
        · have := hb.1 x h1
          have := ha.1 y h2
          omega
    subst e
    rw [pair_ext ha.2 hb.2 fun z => ?_]
    constructor
    · intro hz
      rcases List.mem_cons.1 ((h z).1 (by simp [hz])) with e | h'
      · have := ha.1 z hz; omega
      · exact h'
    · intro hz
      rcases List.mem_cons.1 ((h z).2 (by simp [hz])) with e | h'
      · have := hb.1 z hz; omega
      · exact h'

theorem listTo_pair (s : Nat) : ∀ n, (listTo s n).Pairwise (· < ·)
  | 0 => by simp [listTo]
  | n + 1 => by
    rw [listTo_succ]
    split
    · rw [List.pairwise_append]
      refine ⟨listTo_pair s n, by simp, fun x hx y hy => ?_⟩
      obtain ⟨k, h1, _, rfl⟩ := mem_listTo.1 hx
      rw [List.mem_singleton.1 hy]; omega
    · exact listTo_pair s n

/-- A set read from an ascending list is this list. -/
theorem listS_bitsS {l : List Int} (h : l.Pairwise (· < ·)) (hr : ∀ x ∈ l, 0 ≤ x ∧ x < 62) : listS (bitsS l) = l := by
  refine pair_ext (listTo_pair _ _) h fun x => ?_
  unfold listS
  rw [mem_listTo]
  constructor
  · rintro ⟨k, h1, h2, rfl⟩
    rw [bitsS_bit, List.any_eq_true] at h2
    obtain ⟨y, hy, e⟩ := h2
    rw [decide_eq_true_eq] at e
    have := hr y hy
    have : ((k : Nat) : Int) = y := by omega
    rw [this]; exact hy
  · intro hx
    have := hr x hx
    refine ⟨x.toNat, by omega, ?_, by omega⟩
    rw [bitsS_bit, List.any_eq_true]
    exact ⟨x, hx, by simp⟩

theorem pickSet_bits (t : List Nat) : ∀ (ch : List Int) (s : Nat), (∀ i ∈ ch, 0 ≤ i ∧ i < t.length) → ch.foldl (fun s i => s ||| 2 ^ t[i.toNat]!) s = s ||| bitsS (pickL (t.map fun (x : Nat) => (x : Int)) ch)
  | [], s, _ => by simp [pickL, bitsS]
  | i :: ch, s, h => by
    have hi := h i (by simp)
    rw [List.foldl_cons, pickSet_bits t ch _ fun j hj => h j (by simp [hj])]
    have hlt : i.toNat < t.length := by omega
    have e : ((t.map fun (x : Nat) => (x : Int))[i.toNat]!).toNat = t[i.toNat]! := by
      rw [getD_idx (by simpa using hlt), getD_any hlt]; simp
    show _ = s ||| (2 ^ ((t.map fun (x : Nat) => (x : Int))[i.toNat]!).toNat ||| bitsS (pickL _ ch))
    rw [e, Nat.or_assoc]

theorem pickSet_eq (t : List Nat) (ch : List Int) (h : ∀ i ∈ ch, 0 ≤ i ∧ i < t.length) : pickSet t ch = bitsS (pickL (t.map fun (x : Nat) => (x : Int)) ch) := by
  unfold pickSet; rw [pickSet_bits t ch 0 h]; simp

theorem pair_get {l : List Int} (h : l.Pairwise (· < ·)) {i j : Nat} (hij : i < j) (hj : j < l.length) : l[i]! < l[j]! := by
  rw [getD_idx (by omega), getD_idx hj]
  exact List.pairwise_iff_getElem.1 h i j (by omega) hj hij

theorem pickL_pair {l : List Int} (hl : l.Pairwise (· < ·)) : ∀ {ch : List Int}, ch.Pairwise (· < ·) → (∀ i ∈ ch, 0 ≤ i ∧ i < l.length) → (pickL l ch).Pairwise (· < ·)
  | [], _, _ => List.Pairwise.nil
  | i :: ch, h, hr => by
    rw [List.pairwise_cons] at h
    have hi := hr i (by simp)
    refine List.Pairwise.cons (fun y hy => ?_) (pickL_pair hl h.2 fun j hj => hr j (by simp [hj]))
    obtain ⟨j, hj, rfl⟩ := List.mem_map.1 hy
    have h1 := h.1 j hj
    have h2 := hr j (by simp [hj])
    exact pair_get hl (by omega) (by omega)

theorem pickL_mem {l ch : List Int} {y : Int} (hy : y ∈ pickL l ch) (hr : ∀ i ∈ ch, 0 ≤ i ∧ i < l.length) : y ∈ l := by
  obtain ⟨j, hj, rfl⟩ := List.mem_map.1 hy
  have h2 := hr j hj
  rw [getD_idx (by omega)]
  exact List.getElem_mem _

/-- What is picked from an ascending list is the list of its set. -/
theorem pick_list {l : List Int} (hl : l.Pairwise (· < ·)) (hr : ∀ x ∈ l, 0 ≤ x ∧ x < 62) (hn : l.length ≤ 6) {i : Nat} (hi : i ≤ 6) {ch : List Int} (h : ch ∈ choicesL l.length i) : listS (bitsS (pickL l ch)) = pickL l ch := by
  have h1 := choices_mem h
  refine listS_bitsS (pickL_pair hl (ascB_pair (choices_asc hn hi h)) h1.2) fun x hx => hr x (pickL_mem hx h1.2)
end Go.Proofs.Ytakkdmdkelbnjaa.Abs

/- Contracts: Why. -/
namespace Go.Proofs.Ytakkdmdkelbnjaa.Abs
set_option linter.unusedSimpArgs false
set_option maxHeartbeats 4000000
set_option maxRecDepth 100000
open Go Go.RowKit Go.Proofs

theorem risingL_pair {u : Int} : ∀ {l : List Int} {last : Int}, risingL u last l = true → l.Pairwise (· < ·) ∧ (∀ x ∈ l, last < x ∧ x < u) ∧ (l.length : Int) ≤ max 0 (u - 1 - last)
  | [], last, _ => ⟨List.Pairwise.nil, by simp, by simp; omega⟩
  | x :: l, last, h => by
    simp only [risingL, Bool.and_eq_true, decide_eq_true_eq] at h
    obtain ⟨h1, h2, h3⟩ := risingL_pair h.2
    refine ⟨List.Pairwise.cons (fun y hy => (h2 y hy).1) h1, fun y hy => ?_, ?_⟩
    · rcases List.mem_cons.1 hy with rfl | hy
      · exact h.1
      · have := h2 y hy; omega
    · rw [List.length_cons]; omega

theorem listE_rise {l : List Int} {u : Nat} (h : listE l u = 0) : l.Pairwise (· < ·) ∧ (∀ x ∈ l, 0 ≤ x ∧ x < u) ∧ l.length ≤ u := by
  obtain ⟨h1, h2⟩ := listE_zero h
  obtain ⟨h3, _, h4⟩ := risingL_pair h2
  exact ⟨h3, h1, by omega⟩

theorem nats_ints {l : List Int} (h : ∀ x ∈ l, 0 ≤ x) : (l.map Int.toNat).map (fun (x : Nat) => (x : Int)) = l := by
  rw [List.map_map]
  conv => rhs; rw [← List.map_id l]
  refine List.map_congr_left fun x hx => ?_
  have := h x hx
  simp; omega

theorem ints_natsA {l : List Int} (h : ∀ x ∈ l, 0 ≤ x) : ints l = natsA (l.map Int.toNat) := by
  conv => lhs; rw [← nats_ints h]
  simp [ints, natsA, List.map_map]

theorem mem_allCh {n upto : Nat} {ch : List Int} : ch ∈ allCh n upto ↔ ∃ i, i < upto ∧ ch ∈ choicesL n i := by
  simp [allCh, List.mem_flatMap]

theorem allCh_succ (n k : Nat) : allCh n (k + 1) = allCh n k ++ choicesL n k := by
  simp [allCh, List.range_succ]

theorem find_congr {α : Type} {p q : α → Bool} : ∀ {l : List α}, (∀ x ∈ l, p x = q x) → l.find? p = l.find? q
  | [], _ => rfl
  | x :: l, h => by
    rw [List.find?_cons, List.find?_cons, h x (by simp), find_congr fun y hy => h y (by simp [hy])]

theorem find_at {α : Type} {p : α → Bool} {l pre rest : List α} {x : α} (h : l = pre ++ x :: rest) (hp : ∀ y ∈ pre, p y = false) (hx : p x = true) : l.find? p = some x := by
  subst h
  rw [List.find?_append]
  have : pre.find? p = none := by rw [List.find?_eq_none]; intro y hy; rw [hp y hy]; simp
  rw [this]; simp [hx]

theorem find_no {α : Type} {p : α → Bool} {l : List α} (hp : ∀ y ∈ l, p y = false) : l.find? p = none := by
  rw [List.find?_eq_none]; intro y hy; rw [hp y hy]; simp

/-- A choice is met in the middle of all. -/
theorem search_hit {n upto k i : Nat} {q : List Int → Bool} (hk : k < upto) (hi : i < (choicesL n k).length) (h1 : ∀ ch ∈ allCh n k, q ch = false) (h2 : ∀ ch ∈ (choicesL n k).take i, q ch = false) (h : q (choicesL n k)[i]! = true) :
    searchL n upto q = some (choicesL n k)[i]! := by
  have e : ∀ d, ∃ r, allCh n (k + 1 + d) = allCh n (k + 1) ++ r := by
    intro d
    induction d with
    | zero => exact ⟨[], by simp⟩
    | succ d ih =>
      obtain ⟨r, hr⟩ := ih
      rw [show k + 1 + (d + 1) = (k + 1 + d) + 1 by omega, allCh_succ, hr]
      exact ⟨r ++ choicesL n (k + 1 + d), by simp⟩
  obtain ⟨r, hr⟩ := e (upto - (k + 1))
  rw [show k + 1 + (upto - (k + 1)) = upto by omega, allCh_succ] at hr
  have hsp : choicesL n k = (choicesL n k).take i ++ (choicesL n k)[i]! :: (choicesL n k).drop (i + 1) := by
    rw [getD_any hi, ← List.drop_eq_getElem_cons hi, List.take_append_drop]
  unfold searchL
  refine find_at (pre := allCh n k ++ (choicesL n k).take i) (rest := (choicesL n k).drop (i + 1) ++ r) ?_ ?_ h
  · rw [hr]
    conv => lhs; rw [hsp]
    simp
  · intro y hy
    rcases List.mem_append.1 hy with hy | hy
    · exact h1 y hy
    · exact h2 y hy

theorem first_pick {l : List Int} (hl : l.Pairwise (· < ·)) (hr : ∀ x ∈ l, 0 ≤ x ∧ x < 60) (hn : l.length ≤ 6) (p : Nat → Bool) :
    firstL (l.map Int.toNat) p = match searchL l.length (l.length + 1) (fun ch => p (bitsS (pickL l ch))) with
      | some ch => (pickL l ch, true)
      | none => ([], false) := by
  have hlen : (l.map Int.toNat).length = l.length := by simp
  rw [firstL_search _ (by rw [hlen]; exact hn) p, hlen]
  have hni := nats_ints (l := l) fun x hx => (hr x hx).1
  have hps : ∀ ch ∈ allCh l.length (l.length + 1), pickSet (l.map Int.toNat) ch = bitsS (pickL l ch) := fun ch hch => by
    obtain ⟨i, _, hc⟩ := mem_allCh.1 hch
    rw [pickSet_eq _ _ (by rw [hlen]; exact (choices_mem hc).2), hni]
  have hf : searchL l.length (l.length + 1) (fun ch => p (pickSet (l.map Int.toNat) ch)) = searchL l.length (l.length + 1) (fun ch => p (bitsS (pickL l ch))) :=
    find_congr fun ch hch => by rw [hps ch hch]
  rw [hf]
  cases hs : searchL l.length (l.length + 1) fun ch => p (bitsS (pickL l ch)) with
  | none => rfl
  | some ch =>
    have hch := List.mem_of_find?_eq_some hs
    obtain ⟨i, hi, hc⟩ := mem_allCh.1 hch
    simp only
    rw [hps ch hch, pick_list hl (fun x hx => by have := hr x hx; omega) hn (by omega) hc]

/-- What Why hands back, for a valid chest. -/
def whyL (v : VChest) (l : List Int) (fact : Nat) : List Int × Int := match searchL l.length (l.length + 1) (fun ch => (tellS v (bitsS (pickL l ch))).testBit fact) with
  | some ch => (pickL l ch, 0)
  | none => ([], 9)

def whyR (c : RChest) (l : List Int) (fact : Int) : List Int × Int :=
  if askedR (checkR c).2.2 fact c.facts l c.copies.length ≠ 0 then ([], askedR (checkR c).2.2 fact c.facts l c.copies.length) else whyL c.v l fact.toNat

theorem pick_range {n : Nat} {l ch : List Int} (hl : ∀ x ∈ l, 0 ≤ x ∧ x < (n : Int)) (hc : ∀ i ∈ ch, 0 ≤ i ∧ i < l.length) : ∀ x ∈ pickL l ch, 0 ≤ x ∧ x < (n : Int) := fun _ hx => hl _ (pickL_mem hx hc)

theorem refwhy_ok (v : VChest) (hv : VOk v) (l : List Int) (fact : Nat) (hl : listE l v.copies.length = 0) (hf : fact < v.facts) (hask : PCall Try.prog 64 [vchestA v, .int .i64 fact, .int .i64 v.facts, ints l, .int .i64 v.copies.length] (.int .i64 0)) :
    PCall Try.prog 30 [vchestA v, ints l, .int .i64 fact] (.tuple [ints (whyL v l fact).1, .int .i64 (whyL v l fact).2]) := by
  intro m
  obtain ⟨r1, r2, r3⟩ := listE_rise hl
  have hc6 := hv.c
  have hf6 := hv.f
  have hl6 : l.length ≤ 6 := by omega
  have hW : whyL v l fact = match searchL l.length (l.length + 1) (fun ch => (tellS v (bitsS (pickL l ch))).testBit fact) with
    | some ch => (pickL l ch, 0)
    | none => ([], 9) := rfl
  generalize whyL v l fact = W at *
  have htold : ∀ ch, (∀ i ∈ ch, 0 ≤ i ∧ i < (l.length : Int)) → PCall Try.prog 75 [vchestA v, ints (pickL l ch)] (ints (listS (tellS v (bitsS (pickL l ch))))) := fun ch h => by
    have := told_c v hv (pickL l ch) (pick_range r2 h)
    rwa [toldL_tell v hv _ (pick_range r2 h)] at this
  have hhas : ∀ s, s < 2 ^ 62 → decide ((fact : Int) ∈ listS s) = s.testBit fact := fun s hs => by
    rw [Bool.eq_iff_iff, decide_eq_true_eq]
    unfold listS
    rw [mem_listTo]
    constructor
    · rintro ⟨k, _, h2, h3⟩
      have : fact = k := by omega
      rw [this]; exact h2
    · intro h
      exact ⟨fact, by omega, h, rfl⟩
  have hch := fun k (hk : k ≤ 6) => choices_c l.length k hl6 hk
  simp only [vchestA, vchestL, strs, ints, intss] at hask htold hch ⊢
  (refine acall_intro (E := env fun _ => .imm) (envOk _) rfl Try.func30 rfl Try.call30 (by kernel_rfl) (by simp [Try.ntmps30]) ?_; simp only [Try.f30];  simp (maxSteps := 4000000) only [↓VP0, ↓VP1, ↓VP2, VQ0, VQ1, VQ2, VQ3, VQ4, VT, ite_self, ite_split, Nat.reduceEqDiff, Nat.reduceAdd, Nat.reduceSub, Nat.reduceMul, Nat.reduceLeDiff, Nat.reduceLT, Nat.reduceBEq, Int.reduceLE, Int.reduceLT, Int.reduceNeg, Int.reduceAdd, Int.reduceSub, Int.reduceToNat, ↓reduceIte, reduceCtorEq])
  repeat' (first | intro _ | refine And.intro ?_ ?_)
  (refine ACall.pure (hask) ?_; try simp (maxSteps := 4000000) only [↓VP0, ↓VP1, ↓VP2, VQ0, VQ1, VQ2, VQ3, VQ4, VT, ite_self, ite_split, Nat.reduceEqDiff, Nat.reduceAdd, Nat.reduceSub, Nat.reduceMul, Nat.reduceLeDiff, Nat.reduceLT, Nat.reduceBEq, Int.reduceLE, Int.reduceLT, Int.reduceNeg, Int.reduceAdd, Int.reduceSub, Int.reduceToNat, ↓reduceIte, reduceCtorEq])
  refine aloop (envOk _) (fun k : Nat => ⟨[(1, .v (ints l)), (2, .v (.int .i64 fact)), (3, .v (.eptr [.int .i64 v.words, .int .i64 v.facts, .slice 1 (v.people.map AV.str), .int .i64 v.last, .slice 4 (v.copies.map vcopyA), .slice 2 (v.rules.map vruleA)])), (9, .v (.int .i64 k))], [], [], m⟩)
    (fun k => k ≤ l.length + 1 ∧ ∀ ch ∈ allCh l.length k, (tellS v (bitsS (pickL l ch))).testBit fact = false) (fun k => l.length + 1 - k) 0 (fun _ => rfl) ⟨by omega, by simp [allCh]⟩ (by (simp only [Fits, fitsV, fitsO, fitsL, ↓upd, ↓lookV, ↓lookO, ↓lookL, Nat.reduceEqDiff, ↓reduceIte, ints, and_true, true_and, Option.some.injEq]); simp) ?_
  rintro k ⟨hk, hk1⟩
  simp (maxSteps := 4000000) only [↓VP0, ↓VP1, ↓VP2, VQ0, VQ1, VQ2, VQ3, VQ4, VT, ite_self, ite_split, Nat.reduceEqDiff, Nat.reduceAdd, Nat.reduceSub, Nat.reduceMul, Nat.reduceLeDiff, Nat.reduceLT, Nat.reduceBEq, Int.reduceLE, Int.reduceLT, Int.reduceNeg, Int.reduceAdd, Int.reduceSub, Int.reduceToNat, ↓reduceIte, reduceCtorEq]
  repeat' (first | intro _ | refine And.intro ?_ ?_)
  all_goals try (first | omega | (simp only [List.length_map, List.length_cons, List.length_nil, List.length_append, Nat.zero_add]; omega) | exact Int.natCast_nonneg _ | exact Int.le_trans (by decide) (Int.natCast_nonneg _) | exact Nat.le_of_ble_eq_true rfl)
  · (refine ACall.pure (hch k (by omega)) ?_; try simp (maxSteps := 4000000) only [↓VP0, ↓VP1, ↓VP2, VQ0, VQ1, VQ2, VQ3, VQ4, VT, ite_self, ite_split, Nat.reduceEqDiff, Nat.reduceAdd, Nat.reduceSub, Nat.reduceMul, Nat.reduceLeDiff, Nat.reduceLT, Nat.reduceBEq, Int.reduceLE, Int.reduceLT, Int.reduceNeg, Int.reduceAdd, Int.reduceSub, Int.reduceToNat, ↓reduceIte, reduceCtorEq])
    refine aloop (envOk _) (fun i : Nat => ⟨[(1, .v (ints l)), (2, .v (.int .i64 fact)), (3, .v (.eptr [.int .i64 v.words, .int .i64 v.facts, .slice 1 (v.people.map AV.str), .int .i64 v.last, .slice 4 (v.copies.map vcopyA), .slice 2 (v.rules.map vruleA)])), (9, .v (.int .i64 k)),
        (10, .v (.slice 1 ((choicesL l.length k).map fun x => AV.slice 1 (x.map (AV.int .i64))))), (11, .v (.int .i64 i))], [], [], m⟩)
      (fun i => i ≤ (choicesL l.length k).length ∧ ∀ ch ∈ (choicesL l.length k).take i, (tellS v (bitsS (pickL l ch))).testBit fact = false) (fun i => (choicesL l.length k).length - i) 0 (fun _ => rfl) ⟨by omega, by simp⟩ (by (simp only [Fits, fitsV, fitsO, fitsL, ↓upd, ↓lookV, ↓lookO, ↓lookL, Nat.reduceEqDiff, ↓reduceIte, ints, and_true, true_and, Option.some.injEq]); simp) ?_
    rintro i ⟨hi, hi1⟩
    simp (maxSteps := 4000000) only [↓VP0, ↓VP1, ↓VP2, VQ0, VQ1, VQ2, VQ3, VQ4, VT, ite_self, ite_split, Nat.reduceEqDiff, Nat.reduceAdd, Nat.reduceSub, Nat.reduceMul, Nat.reduceLeDiff, Nat.reduceLT, Nat.reduceBEq, Int.reduceLE, Int.reduceLT, Int.reduceNeg, Int.reduceAdd, Int.reduceSub, Int.reduceToNat, ↓reduceIte, reduceCtorEq]
    repeat' (first | intro _ | refine And.intro ?_ ?_)
    all_goals try (first | omega | (simp only [List.length_map, List.length_cons, List.length_nil, List.length_append, Nat.zero_add]; omega) | exact Int.natCast_nonneg _ | exact Int.le_trans (by decide) (Int.natCast_nonneg _) | exact Nat.le_of_ble_eq_true rfl)
    · have hlt : i < (choicesL l.length k).length := by omega
      have hmem : (choicesL l.length k)[i]! ∈ choicesL l.length k := by rw [getD_any hlt]; exact List.getElem_mem hlt
      obtain ⟨c1, c2⟩ := choices_mem hmem
      have hp := pick_c l (choicesL l.length k)[i]! (by omega) c2
      have ht := htold _ c2
      have hh := has_c (listS (tellS v (bitsS (pickL l (choicesL l.length k)[i]!)))) (fact : Int)
      rw [hhas _ (Nat.lt_trans (tellS_small v hv _) (by decide))] at hh
      simp only [ints] at hp ht hh
      (refine adraw (by first | exact envOk _ | exact envCOk _ _ _) mixed [⟨false, false, 0⟩, ⟨false, false, 0⟩, ⟨false, false, 0⟩, ⟨false, false, 0⟩, ⟨false, false, 0⟩, ⟨false, false, 0⟩, ⟨false, false, 0⟩, ⟨false, false, 0⟩, ⟨false, false, 0⟩, ⟨false, false, 0⟩] (by kernel_rfl) ?_; show vcOpsD _ _ _ (_ :: _) _ _)
      simp (maxSteps := 4000000) only [↓VP0, ↓VP1, ↓VP2, VQ0, VQ1, VQ2, VQ3, VQ4, VT, ite_self, ite_split, Nat.reduceEqDiff, Nat.reduceAdd, Nat.reduceSub, Nat.reduceMul, Nat.reduceLeDiff, Nat.reduceLT, Nat.reduceBEq, Int.reduceLE, Int.reduceLT, Int.reduceNeg, Int.reduceAdd, Int.reduceSub, Int.reduceToNat, ↓reduceIte, reduceCtorEq]
      repeat' (first | intro _ | refine And.intro ?_ ?_)
      all_goals try (first | omega | (simp only [List.length_map, List.length_cons, List.length_nil, List.length_append, Nat.zero_add]; omega) | exact Int.natCast_nonneg _ | exact Int.le_trans (by decide) (Int.natCast_nonneg _) | exact Nat.le_of_ble_eq_true rfl)
      (refine ⟨_, hp, ?_⟩; try simp (maxSteps := 4000000) only [↓VP0, ↓VP1, ↓VP2, VQ0, VQ1, VQ2, VQ3, VQ4, VT, ite_self, ite_split, Nat.reduceEqDiff, Nat.reduceAdd, Nat.reduceSub, Nat.reduceMul, Nat.reduceLeDiff, Nat.reduceLT, Nat.reduceBEq, Int.reduceLE, Int.reduceLT, Int.reduceNeg, Int.reduceAdd, Int.reduceSub, Int.reduceToNat, ↓reduceIte, reduceCtorEq])
      (refine ⟨_, ht, ?_⟩; try simp (maxSteps := 4000000) only [↓VP0, ↓VP1, ↓VP2, VQ0, VQ1, VQ2, VQ3, VQ4, VT, ite_self, ite_split, Nat.reduceEqDiff, Nat.reduceAdd, Nat.reduceSub, Nat.reduceMul, Nat.reduceLeDiff, Nat.reduceLT, Nat.reduceBEq, Int.reduceLE, Int.reduceLT, Int.reduceNeg, Int.reduceAdd, Int.reduceSub, Int.reduceToNat, ↓reduceIte, reduceCtorEq])
      (refine ⟨_, hh, ?_⟩; try simp (maxSteps := 4000000) only [↓VP0, ↓VP1, ↓VP2, VQ0, VQ1, VQ2, VQ3, VQ4, VT, ite_self, ite_split, Nat.reduceEqDiff, Nat.reduceAdd, Nat.reduceSub, Nat.reduceMul, Nat.reduceLeDiff, Nat.reduceLT, Nat.reduceBEq, Int.reduceLE, Int.reduceLT, Int.reduceNeg, Int.reduceAdd, Int.reduceSub, Int.reduceToNat, ↓reduceIte, reduceCtorEq])
      repeat' (first | intro _ | refine And.intro ?_ ?_)
      all_goals try (first | omega | (simp only [List.length_map, List.length_cons, List.length_nil, List.length_append, Nat.zero_add]; omega) | exact Int.natCast_nonneg _ | exact Int.le_trans (by decide) (Int.natCast_nonneg _) | exact Nat.le_of_ble_eq_true rfl)
      · have h1 : (tellS v (bitsS (pickL l (choicesL l.length k)[i]!))).testBit fact = true := by assumption
        (refine ACall.pure (hp) ?_; try simp (maxSteps := 4000000) only [↓VP0, ↓VP1, ↓VP2, VQ0, VQ1, VQ2, VQ3, VQ4, VT, ite_self, ite_split, Nat.reduceEqDiff, Nat.reduceAdd, Nat.reduceSub, Nat.reduceMul, Nat.reduceLeDiff, Nat.reduceLT, Nat.reduceBEq, Int.reduceLE, Int.reduceLT, Int.reduceNeg, Int.reduceAdd, Int.reduceSub, Int.reduceToNat, ↓reduceIte, reduceCtorEq])
        rw [hW, search_hit (by omega) hlt hk1 hi1 h1]
      · have h1 : (tellS v (bitsS (pickL l (choicesL l.length k)[i]!))).testBit fact = false := by (first | assumption | (rw [← Bool.not_eq_false]; assumption) | (rw [← Bool.not_eq_true]; assumption) | omega)
        (refine ⟨i + 1, ?_, by dsimp only; omega, ?_⟩; rotate_left 1; · ((simp only [Fits, fitsV, fitsO, fitsL, ↓upd, ↓lookV, ↓lookO, ↓lookL, Nat.reduceEqDiff, ↓reduceIte, ints, and_true, true_and, Option.some.injEq]); try simp []))
        exact ⟨by omega, forall_take_succ hlt hi1 (by rw [← getD_any hlt]; exact h1)⟩
    · have hi2 : (choicesL l.length k).take i = choicesL l.length k := List.take_of_length_le (by omega)
      rw [hi2] at hi1
      (refine ⟨k + 1, ?_, by dsimp only; omega, ?_⟩; rotate_left 1; · ((simp only [Fits, fitsV, fitsO, fitsL, ↓upd, ↓lookV, ↓lookO, ↓lookL, Nat.reduceEqDiff, ↓reduceIte, ints, and_true, true_and, Option.some.injEq]); try simp []))
      refine ⟨by omega, fun ch hc => ?_⟩
      rw [allCh_succ] at hc
      rcases List.mem_append.1 hc with hc | hc
      · exact hk1 ch hc
      · exact hi1 ch hc
  · rw [hW, show searchL l.length (l.length + 1) (fun ch => (tellS v (bitsS (pickL l ch))).testBit fact) = none from find_no fun ch hc => hk1 ch (by rw [show k = l.length + 1 by omega]; exact hc)]
    rfl

/-- Memory that holds what an inner call has left is more than it was. -/
theorem forget_keeps {S : Nat → Prop} {m m' : Mem} {b : Nat} {y : Box} {R : Prop} (hb : m b = none) (hS : S = fun c => c = b) (h : Keeps S (upd m b (some y)) m') (hR : R) : ∃ m'' : Mem, (∀ c x, m'' c = some x → m' c = some x) ∧ R ∧ m'' = m := by
  subst hS
  refine ⟨m, fun c x hc => ?_, hR, rfl⟩
  have hne := ne_of_some hc hb
  exact h c x hne ((upd_ne _ _ hne).trans hc)

theorem why_ok (v : VChest) (hv : VOk v) (l : List Int) (fact : Nat) (hl : listE l v.copies.length = 0) (hf : fact < v.facts)
    (hen : ∀ m, ACall Try.prog 58 [vchestA v, ints [(fact : Int), v.facts]] m fun r m' => ∃ b, m b = none ∧ r = .tuple [.eptr (seenL v b), .int .i64 0] ∧ m' = upd m b (some (.map []))) :
    PCall Try.prog 29 [vchestA v, ints l, .int .i64 fact] (.tuple [ints (whyL v l fact).1, .int .i64 (whyL v l fact).2]) := by
  intro m
  refine ACall.forget ?_
  obtain ⟨r1, r2, r3⟩ := listE_rise hl
  have hc6 := hv.c
  have hf6 := hv.f
  have hl6 : l.length ≤ 6 := by omega
  have hbits := bits_c l v.copies.length (by omega) (by omega)
  rw [bitsR_snd, hl] at hbits
  have hW : whyL v l fact = match searchL l.length (l.length + 1) (fun ch => (tellS v (bitsS (pickL l ch))).testBit fact) with
    | some ch => (pickL l ch, 0)
    | none => ([], 9) := rfl
  have hfp := first_pick r1 (fun x hx => by have := r2 x hx; omega) hl6 (fun s => (tellS v s).testBit fact)
  have hfirst := fun (b : Nat) (m : Mem) (hm : ToldM v b m) => first_c (l.map Int.toNat) (fun x hx => by obtain ⟨y, hy, rfl⟩ := List.mem_map.1 hx; have := r2 y hy; omega) (by simp; omega)
    (wok_told (g := 76) (caps := [.eptr [.eptr (seenL v b)], .eptr [.int .i64 fact]]) (p := fun s => (tellS v s).testBit fact) (v := v) (b := b) fun x m l' hx hm => why1_c v b fact hv (by omega) x m l' hx hm) m hm
  rw [← ints_natsA fun x hx => (r2 x hx).1] at hfirst
  generalize whyL v l fact = W at *
  generalize firstL (l.map Int.toNat) (fun s => (tellS v s).testBit fact) = FL at *
  have hen := hen m
  have hcase : (∃ ch, W = (pickL l ch, 0) ∧ FL = (pickL l ch, true)) ∨ (W = ([], 9) ∧ FL = ([], false)) := by
    cases hs : searchL l.length (l.length + 1) fun ch => (tellS v (bitsS (pickL l ch))).testBit fact with
    | some ch => rw [hs] at hW hfp; exact .inl ⟨ch, hW, hfp⟩
    | none => rw [hs] at hW hfp; exact .inr ⟨hW, hfp⟩
  clear hW hfp
  rcases hcase with ⟨ch, rfl, rfl⟩ | ⟨rfl, rfl⟩
  all_goals
    simp only [vchestA, vchestL, strs, ints, List.map_cons, List.map_nil] at hen hbits hfirst ⊢
    (refine acall_intro (E := envC (modeAt [8] []) false []) (envCOk _ _ _) rfl Try.func29 rfl Try.call29 (by kernel_rfl) (by simp [Try.ntmps29]) ?_; simp only [Try.f29];  simp (maxSteps := 4000000) only [↓VP0, ↓VP1, ↓VP2, VQ0, VQ1, VQ2, VQ3, VQ4, VT, ite_self, ite_split, Nat.reduceEqDiff, Nat.reduceAdd, Nat.reduceSub, Nat.reduceMul, Nat.reduceLeDiff, Nat.reduceLT, Nat.reduceBEq, Int.reduceLE, Int.reduceLT, Int.reduceNeg, Int.reduceAdd, Int.reduceSub, Int.reduceToNat, ↓reduceIte, reduceCtorEq])
    repeat' (first | intro _ | refine And.intro ?_ ?_)
    refine ACall.told hen ?_
    rintro r m1 ⟨b, hb, rfl, rfl⟩
    simp (maxSteps := 4000000) only [↓VP0, ↓VP1, ↓VP2, VQ0, VQ1, VQ2, VQ3, VQ4, VT, ite_self, ite_split, Nat.reduceEqDiff, Nat.reduceAdd, Nat.reduceSub, Nat.reduceMul, Nat.reduceLeDiff, Nat.reduceLT, Nat.reduceBEq, Int.reduceLE, Int.reduceLT, Int.reduceNeg, Int.reduceAdd, Int.reduceSub, Int.reduceToNat, ↓reduceIte, reduceCtorEq]
    repeat' (first | intro _ | refine And.intro ?_ ?_)
    all_goals try (first | omega | (simp only [List.length_map, List.length_cons, List.length_nil, List.length_append, Nat.zero_add]; omega) | exact Int.natCast_nonneg _ | exact Int.le_trans (by decide) (Int.natCast_nonneg _) | exact Nat.le_of_ble_eq_true rfl)
    (refine ACall.pure (hbits) ?_; try simp (maxSteps := 4000000) only [↓VP0, ↓VP1, ↓VP2, VQ0, VQ1, VQ2, VQ3, VQ4, VT, ite_self, ite_split, Nat.reduceEqDiff, Nat.reduceAdd, Nat.reduceSub, Nat.reduceMul, Nat.reduceLeDiff, Nat.reduceLT, Nat.reduceBEq, Int.reduceLE, Int.reduceLT, Int.reduceNeg, Int.reduceAdd, Int.reduceSub, Int.reduceToNat, ↓reduceIte, reduceCtorEq])
    refine ACall.told (hfirst b _ ⟨[], upd_same _ _ _⟩) ?_
    rintro r m2 ⟨rfl, hM, hk⟩
    simp (maxSteps := 4000000) only [↓VP0, ↓VP1, ↓VP2, VQ0, VQ1, VQ2, VQ3, VQ4, VT, ite_self, ite_split, Nat.reduceEqDiff, Nat.reduceAdd, Nat.reduceSub, Nat.reduceMul, Nat.reduceLeDiff, Nat.reduceLT, Nat.reduceBEq, Int.reduceLE, Int.reduceLT, Int.reduceNeg, Int.reduceAdd, Int.reduceSub, Int.reduceToNat, ↓reduceIte, reduceCtorEq]
    obtain ⟨m'', q1, _, q2⟩ := forget_keeps (R := True) hb rfl hk trivial
    exact ⟨m'', q1, q2⟩

theorem facts_of {c : RChest} (h : (checkR c).2.2 = 0) : -9223372036854775000 ≤ c.facts ∧ c.facts ≤ 9223372036854775807 := by
  obtain ⟨h1, _⟩ := checkR_parts h
  simp only [Bool.or_eq_false_iff, offP_false] at h1
  omega

theorem bounds_two {n b : Int} (hb : -9223372036854775000 ≤ b ∧ b ≤ 9223372036854775807) : ∀ j, 2 * j + 1 < [n, b].length → -9223372036854775000 ≤ [n, b][2 * j + 1]! ∧ [n, b][2 * j + 1]! ≤ 9223372036854775807 := by
  intro j hj
  have : j = 0 := by simp at hj; omega
  subst this
  simpa using hb

/-- What enter does for a chest that is valid, and numbers that are. -/
theorem enter_ok (v : VChest) (hv : VOk v) (hs : namesFit v.raw) (l : List Int) (hlen : l.length ≤ 1000) (hlow : ∀ j, 2 * j + 1 < l.length → -9223372036854775000 ≤ l[2 * j + 1]! ∧ l[2 * j + 1]! ≤ 9223372036854775807) (hoff : pairsOff l = false) (m : Mem) :
    ACall Try.prog 58 [vchestA v, ints l] m fun r m' => ∃ b, m b = none ∧ r = .tuple [.eptr (seenL v b), .int .i64 0] ∧ m' = upd m b (some (.map [])) := by
  have hE : enterE v.raw l = 0 := by unfold enterE; rw [vok_check hv, hoff]; rfl
  have := enter_c v.raw hs l hlen (fun _ => hlow) m
  rw [hE, vchestA_raw] at this
  have hvv : v.raw.v = v := by
    obtain ⟨w, f, p, la, cs, rs⟩ := v
    simp only [VChest.raw, RChest.v, List.map_map, VChest.mk.injEq, Int.toNat_natCast, true_and]
    refine ⟨?_, ?_⟩
    · conv => rhs; rw [← List.map_id cs]
      exact List.map_congr_left fun x _ => by obtain ⟨a, b, c, d⟩ := x; simp [VCopy.raw, RCopy.v]
    · conv => rhs; rw [← List.map_id rs]
      exact List.map_congr_left fun x _ => by obtain ⟨a, b⟩ := x; simp [VRule.raw, RRule.v]
  rw [hvv] at this
  exact this.mono fun r m' h => by
    rcases h with ⟨h, _⟩ | ⟨_, _, h⟩
    · exact absurd rfl h
    · exact h

theorem whyR_bad1 {c : RChest} {l : List Int} {fact e : Int} (h : enterE c [fact, c.facts] = e) (he : e ≠ 0) : whyR c l fact = ([], e) := by
  rw [enterE_two] at h
  unfold whyR
  rw [askedR_eq]
  by_cases q1 : (checkR c).2.2 ≠ 0
  · rw [if_pos q1] at h ⊢; rw [h, if_pos he]
  · rw [if_neg q1] at h ⊢
    by_cases q2 : offP 0 (c.facts - 1) fact = true
    · rw [if_pos q2] at h ⊢; rw [h, if_pos he]
    · rw [if_neg q2] at h; exact absurd h.symm he

theorem why_top (c : RChest) (hs : namesFit c) (l : List Int) (fact : Int) : PCall Try.prog 29 [chestA c, ints l, .int .i64 fact] (.tuple [ints (whyR c l fact).1, .int .i64 (whyR c l fact).2]) := by
  by_cases h0 : enterE c [fact, c.facts] ≠ 0
  · rw [whyR_bad1 rfl h0]
    intro m
    refine ACall.forget ?_
    have hen := enter_c c hs [fact, c.facts] (by simp) (fun hk => bounds_two (facts_of hk)) m
    generalize enterE c [fact, c.facts] = e at *
    simp only [chestA, chestL, strs, ints, List.map_nil, List.map_cons] at hen ⊢
    (refine acall_intro (E := envC (modeAt [8] []) false []) (envCOk _ _ _) rfl Try.func29 rfl Try.call29 (by kernel_rfl) (by simp [Try.ntmps29]) ?_; simp only [Try.f29];  simp (maxSteps := 4000000) only [↓VP0, ↓VP1, ↓VP2, VQ0, VQ1, VQ2, VQ3, VQ4, VT, ite_self, ite_split, Nat.reduceEqDiff, Nat.reduceAdd, Nat.reduceSub, Nat.reduceMul, Nat.reduceLeDiff, Nat.reduceLT, Nat.reduceBEq, Int.reduceLE, Int.reduceLT, Int.reduceNeg, Int.reduceAdd, Int.reduceSub, Int.reduceToNat, ↓reduceIte, reduceCtorEq])
    repeat' (first | intro _ | refine And.intro ?_ ?_)
    refine ACall.told hen ?_
    rintro r m' (⟨_, rfl, rfl⟩ | ⟨h, _⟩)
    · simp (maxSteps := 4000000) only [↓VP0, ↓VP1, ↓VP2, VQ0, VQ1, VQ2, VQ3, VQ4, VT, ite_self, ite_split, Nat.reduceEqDiff, Nat.reduceAdd, Nat.reduceSub, Nat.reduceMul, Nat.reduceLeDiff, Nat.reduceLT, Nat.reduceBEq, Int.reduceLE, Int.reduceLT, Int.reduceNeg, Int.reduceAdd, Int.reduceSub, Int.reduceToNat, ↓reduceIte, reduceCtorEq, h0]
      exact ⟨m', fun _ _ h => h, rfl⟩
    · exact absurd h h0
  · have h0' : enterE c [fact, c.facts] = 0 := by omega
    rw [enterE_two] at h0'
    have q1 : (checkR c).2.2 = 0 := by
      by_cases q : (checkR c).2.2 ≠ 0
      · rw [if_pos q] at h0'; exact absurd h0' q
      · omega
    rw [if_neg (by omega)] at h0'
    have q2 : offP 0 (c.facts - 1) fact = false := by
      cases hq : offP 0 (c.facts - 1) fact with
      | false => rfl
      | true => rw [hq] at h0'; simp at h0'
    have hRR : whyR c l fact = if listE l c.copies.length ≠ 0 then ([], listE l c.copies.length) else whyL c.v l fact.toNat := by
      unfold whyR; simp only [askedR_eq, q1, q2, ne_eq, not_true_eq_false, if_false, Bool.false_eq_true]
    rw [hRR]
    obtain ⟨e1, hv⟩ := valid_v q1
    clear hRR h0 h0'
    generalize c.v = v at *
    subst e1
    rw [offP_false] at q2
    have q2' : 0 ≤ fact ∧ fact ≤ (v.facts : Int) - 1 := q2
    have hcl : (v.raw.copies.length : Int) = v.copies.length := by simp [VChest.raw]
    have hf6 := hv.f
    have hc6 := hv.c
    rw [hcl, vchestA_raw]
    have hen := fun m => enter_ok v hv hs [fact, v.facts] (by simp) (bounds_two (by omega)) (by
      have : offP 0 ((v.facts : Int) - 1) fact = false := by rw [offP_false]; exact q2'
      simp [pairsOff, this]) m
    by_cases h4 : listE l v.copies.length ≠ 0
    · rw [if_pos h4]
      intro m
      refine ACall.forget ?_
      have hbits := bits_c l v.copies.length (by omega) (by omega)
      rw [bitsR_snd] at hbits
      have hen := hen m
      generalize (bitsR l v.copies.length).1 = w at *
      generalize listE l v.copies.length = e at *
      simp only [vchestA, vchestL, strs, ints, List.map_nil, List.map_cons] at hen hbits ⊢
      (refine acall_intro (E := envC (modeAt [8] []) false []) (envCOk _ _ _) rfl Try.func29 rfl Try.call29 (by kernel_rfl) (by simp [Try.ntmps29]) ?_; simp only [Try.f29];  simp (maxSteps := 4000000) only [↓VP0, ↓VP1, ↓VP2, VQ0, VQ1, VQ2, VQ3, VQ4, VT, ite_self, ite_split, Nat.reduceEqDiff, Nat.reduceAdd, Nat.reduceSub, Nat.reduceMul, Nat.reduceLeDiff, Nat.reduceLT, Nat.reduceBEq, Int.reduceLE, Int.reduceLT, Int.reduceNeg, Int.reduceAdd, Int.reduceSub, Int.reduceToNat, ↓reduceIte, reduceCtorEq])
      repeat' (first | intro _ | refine And.intro ?_ ?_)
      refine ACall.told hen ?_
      rintro r m' ⟨b, hb, rfl, rfl⟩
      simp (maxSteps := 4000000) only [↓VP0, ↓VP1, ↓VP2, VQ0, VQ1, VQ2, VQ3, VQ4, VT, ite_self, ite_split, Nat.reduceEqDiff, Nat.reduceAdd, Nat.reduceSub, Nat.reduceMul, Nat.reduceLeDiff, Nat.reduceLT, Nat.reduceBEq, Int.reduceLE, Int.reduceLT, Int.reduceNeg, Int.reduceAdd, Int.reduceSub, Int.reduceToNat, ↓reduceIte, reduceCtorEq]
      repeat' (first | intro _ | refine And.intro ?_ ?_)
      all_goals try (first | omega | (simp only [List.length_map, List.length_cons, List.length_nil, List.length_append, Nat.zero_add]; omega) | exact Int.natCast_nonneg _ | exact Int.le_trans (by decide) (Int.natCast_nonneg _) | exact Nat.le_of_ble_eq_true rfl)
      (refine ACall.pure (hbits) ?_; try simp (maxSteps := 4000000) only [↓VP0, ↓VP1, ↓VP2, VQ0, VQ1, VQ2, VQ3, VQ4, VT, ite_self, ite_split, Nat.reduceEqDiff, Nat.reduceAdd, Nat.reduceSub, Nat.reduceMul, Nat.reduceLeDiff, Nat.reduceLT, Nat.reduceBEq, Int.reduceLE, Int.reduceLT, Int.reduceNeg, Int.reduceAdd, Int.reduceSub, Int.reduceToNat, ↓reduceIte, reduceCtorEq])
      simp (maxSteps := 4000000) only [↓VP0, ↓VP1, ↓VP2, VQ0, VQ1, VQ2, VQ3, VQ4, VT, ite_self, ite_split, Nat.reduceEqDiff, Nat.reduceAdd, Nat.reduceSub, Nat.reduceMul, Nat.reduceLeDiff, Nat.reduceLT, Nat.reduceBEq, Int.reduceLE, Int.reduceLT, Int.reduceNeg, Int.reduceAdd, Int.reduceSub, Int.reduceToNat, ↓reduceIte, reduceCtorEq, h4]
      refine ⟨m, fun b' x h => ?_, rfl⟩
      rw [if_neg (ne_of_some h hb)]; exact h
    · rw [if_neg h4]
      have hfn : fact = ((fact.toNat : Nat) : Int) := by omega
      have := why_ok v hv l fact.toNat (by omega) (by omega) (by rw [← hfn]; exact hen)
      rwa [← hfn] at this

theorem refwhy_top (c : RChest) (hs : namesFit c) (l : List Int) (fact : Int) : PCall Try.prog 30 [chestA c, ints l, .int .i64 fact] (.tuple [ints (whyR c l fact).1, .int .i64 (whyR c l fact).2]) := by
  have hask := asked_c c hs fact c.facts l c.copies.length fun h => by
    obtain ⟨h1, _, _, h4, _⟩ := checkR_parts h
    simp only [Bool.or_eq_false_iff, offP_false] at h1
    omega
  by_cases h0 : askedR (checkR c).2.2 fact c.facts l c.copies.length ≠ 0
  · have hR : whyR c l fact = ([], askedR (checkR c).2.2 fact c.facts l c.copies.length) := by unfold whyR; rw [if_pos h0]
    rw [hR]
    intro m
    generalize askedR (checkR c).2.2 fact c.facts l c.copies.length = e at *
    simp only [chestA, chestL, strs, ints, List.map_nil] at hask ⊢
    (refine acall_intro (E := env fun _ => .imm) (envOk _) rfl Try.func30 rfl Try.call30 (by kernel_rfl) (by simp [Try.ntmps30]) ?_; simp only [Try.f30];  simp (maxSteps := 4000000) only [↓VP0, ↓VP1, ↓VP2, VQ0, VQ1, VQ2, VQ3, VQ4, VT, ite_self, ite_split, Nat.reduceEqDiff, Nat.reduceAdd, Nat.reduceSub, Nat.reduceMul, Nat.reduceLeDiff, Nat.reduceLT, Nat.reduceBEq, Int.reduceLE, Int.reduceLT, Int.reduceNeg, Int.reduceAdd, Int.reduceSub, Int.reduceToNat, ↓reduceIte, reduceCtorEq])
    repeat' (first | intro _ | refine And.intro ?_ ?_)
    (refine ACall.pure (hask) ?_; try simp (maxSteps := 4000000) only [↓VP0, ↓VP1, ↓VP2, VQ0, VQ1, VQ2, VQ3, VQ4, VT, ite_self, ite_split, Nat.reduceEqDiff, Nat.reduceAdd, Nat.reduceSub, Nat.reduceMul, Nat.reduceLeDiff, Nat.reduceLT, Nat.reduceBEq, Int.reduceLE, Int.reduceLT, Int.reduceNeg, Int.reduceAdd, Int.reduceSub, Int.reduceToNat, ↓reduceIte, reduceCtorEq])
    simp (maxSteps := 4000000) only [↓VP0, ↓VP1, ↓VP2, VQ0, VQ1, VQ2, VQ3, VQ4, VT, ite_self, ite_split, Nat.reduceEqDiff, Nat.reduceAdd, Nat.reduceSub, Nat.reduceMul, Nat.reduceLeDiff, Nat.reduceLT, Nat.reduceBEq, Int.reduceLE, Int.reduceLT, Int.reduceNeg, Int.reduceAdd, Int.reduceSub, Int.reduceToNat, ↓reduceIte, reduceCtorEq, h0]
    try rfl
  · have hR : whyR c l fact = whyL c.v l fact.toNat := by unfold whyR; rw [if_neg h0]
    rw [hR]
    have h0' : askedR (checkR c).2.2 fact c.facts l c.copies.length = 0 := by omega
    rw [h0'] at hask
    rw [askedR_eq] at h0'
    have q1 : (checkR c).2.2 = 0 := by
      by_cases q : (checkR c).2.2 ≠ 0
      · rw [if_pos q] at h0'; exact absurd h0' q
      · omega
    rw [if_neg (by omega)] at h0'
    have q2 : offP 0 (c.facts - 1) fact = false := by
      cases hq : offP 0 (c.facts - 1) fact with
      | false => rfl
      | true => rw [hq] at h0'; simp at h0'
    rw [q2] at h0'
    obtain ⟨e1, hv⟩ := valid_v q1
    clear hR h0
    generalize c.v = v at *
    subst e1
    rw [offP_false] at q2
    have q2' : 0 ≤ fact ∧ fact ≤ (v.facts : Int) - 1 := q2
    have hcl : (v.raw.copies.length : Int) = v.copies.length := by simp [VChest.raw]
    rw [hcl, vchestA_raw] at hask
    rw [hcl] at h0'
    rw [vchestA_raw]
    have hfn : fact = ((fact.toNat : Nat) : Int) := by omega
    have := refwhy_ok v hv l fact.toNat (by simpa using h0') (by omega) (by rw [← hfn]; exact hask)
    rwa [← hfn] at this
end Go.Proofs.Ytakkdmdkelbnjaa.Abs

/- Laws: what Lock and Least look for. -/
namespace Go.Proofs.Ytakkdmdkelbnjaa.Abs
set_option linter.unusedSimpArgs false
open Go Go.RowKit Go.Proofs

theorem listS_view (v : VChest) (hv : VOk v) (p : Nat) (hp : p < v.people.length) : listS (viewS v p) = ownL v p := by
  unfold viewS
  rw [if_pos hp, list_setOf _ _ (by have := hv.c; omega)]
  rfl

theorem bitsS_listTo (s n : Nat) (h : s < 2 ^ n) : bitsS (listTo s n) = s := by
  refine Nat.eq_of_testBit_eq fun i => ?_
  rw [bitsS_bit, Bool.eq_iff_iff, List.any_eq_true]
  constructor
  · rintro ⟨x, hx, e⟩
    rw [decide_eq_true_eq] at e
    obtain ⟨k, _, h2, rfl⟩ := mem_listTo.1 hx
    rw [Int.toNat_natCast] at e
    rw [← e]; exact h2
  · intro hb
    have hi : i < n := by
      apply Decidable.byContradiction; intro hge
      rw [Nat.testBit_lt_two_pow (Nat.lt_of_lt_of_le h (Nat.pow_le_pow_right (by decide) (by omega)))] at hb; cases hb
    exact ⟨(i : Int), mem_listTo.2 ⟨i, hi, hb, rfl⟩, by simp⟩

theorem bitsS_listS (s : Nat) (h : s < 2 ^ 62) : bitsS (listS s) = s := bitsS_listTo s 62 h

theorem listS_inj {a b : Nat} (ha : a < 2 ^ 62) (hb : b < 2 ^ 62) (h : listS a = listS b) : a = b := by
  rw [← bitsS_listS a ha, ← bitsS_listS b hb, h]

theorem ownL_pair (v : VChest) (hv : VOk v) (p : Nat) (hp : p < v.people.length) : (ownL v p).Pairwise (· < ·) := by
  rw [← listS_view v hv p hp]; exact listTo_pair _ _

theorem ownL_six (v : VChest) (hv : VOk v) (p : Int) : (ownL v p).length ≤ 6 := Nat.le_trans (ownTo_length v p _) hv.c

theorem choices_full : ((List.range 7).all fun n => decide (choicesL n n = [upToL n])) = true := by kernel_rfl

theorem pick_all (l : List Int) : pickL l (upToL l.length) = l := by
  unfold pickL upToL
  rw [List.map_map]
  apply List.ext_getElem
  · simp
  · intro i h1 h2
    simp only [List.getElem_map, List.getElem_range, Function.comp, Int.toNat_natCast]
    exact getD_idx h2

/-- A search that the whole list ends. -/
theorem search_full {n : Nat} (hn : n ≤ 6) {q : List Int → Bool} (hq : q (upToL n) = true) : searchL n (n + 1) q = some (match searchL n n q with | some ch => ch | none => upToL n) := by
  have hc : choicesL n n = [upToL n] := by
    have := List.all_eq_true.1 choices_full n (List.mem_range.2 (by omega))
    simpa using this
  unfold searchL
  rw [allCh_succ, hc, List.find?_append]
  cases (allCh n n).find? q with
  | some ch => rfl
  | none => simp [hq]

theorem bits_rest {l P : List Int} (hl : ∀ x ∈ l, 0 ≤ x) (hP : ∀ x ∈ P, 0 ≤ x) : bitsS (l.filter fun x => decide (x ∉ P)) = natAndNot (bitsS l) (bitsS P) := by
  refine Nat.eq_of_testBit_eq fun i => ?_
  rw [natAndNot_bit, bitsS_bit, bitsS_bit, bitsS_bit, Bool.eq_iff_iff]
  simp only [Bool.and_eq_true, Bool.not_eq_true', List.any_eq_true, List.any_eq_false, decide_eq_true_eq, List.mem_filter]
  constructor
  · rintro ⟨x, ⟨h1, h2⟩, h3⟩
    refine ⟨⟨x, h1, h3⟩, fun y hy e => h2 ?_⟩
    have := hl x h1
    have := hP y hy
    have : x = y := by omega
    rw [this]; exact hy
  · rintro ⟨⟨x, h1, h2⟩, h3⟩
    exact ⟨x, ⟨h1, fun h => h3 x h h2⟩, h2⟩

theorem tellS_zero (v : VChest) (hv : VOk v) : tellS v 0 = 0 := by
  have hb : ∀ n, baseTo v 0 n = 0 := fun n => by
    induction n with
    | zero => rfl
    | succ n ih => rw [show baseTo v 0 (n + 1) = if (0 : Nat).testBit n = true then baseTo v 0 n ||| (v.copies[n]!).facts else baseTo v 0 n from rfl]; simp [ih]
  have hp : ∀ n, n ≤ v.rules.length → passTo v 0 n = 0 := fun n => by
    induction n with
    | zero => intro _; rfl
    | succ n ih =>
      intro hn
      rw [passTo_succ v 0 n (by omega), ih (by omega), addR, if_neg]
      have hr := hv.rule _ (List.getElem_mem (show n < v.rules.length by omega))
      rw [getD_any (show n < v.rules.length by omega)]
      unfold subS natAndNot
      simp; omega
  have hi : ∀ n, iterN (passL v) n 0 = 0 := fun n => by
    induction n with
    | zero => rfl
    | succ n ih => show passL v (iterN (passL v) n 0) = 0; rw [ih]; exact hp _ (Nat.le_refl _)
  unfold tellS
  rw [hb]; exact hi _

/-- What Lock looks for. -/
def lockQ (v : VChest) (p : Nat) (fact : Nat) (ch : List Int) : Bool := !(tellS v (natAndNot (viewS v p) (bitsS (pickL (ownL v p) ch)))).testBit fact
def lockL (v : VChest) (p fact : Nat) : List Int := match searchL (ownL v p).length (ownL v p).length (lockQ v p fact) with
  | some ch => pickL (ownL v p) ch
  | none => ownL v p

/-- What Least looks for. -/
def leastQ (v : VChest) (p : Nat) (ch : List Int) : Bool := decide (tellS v (bitsS (pickL (ownL v p) ch)) = tellS v (viewS v p))
def leastL (v : VChest) (p : Nat) : List Int := match searchL (ownL v p).length (ownL v p).length (leastQ v p) with
  | some ch => pickL (ownL v p) ch
  | none => ownL v p

theorem bits_own (v : VChest) (hv : VOk v) (p : Nat) (hp : p < v.people.length) : bitsS (ownL v p) = viewS v p := by
  rw [← listS_view v hv p hp, bitsS_listS _ (Nat.lt_of_lt_of_le (viewS_lt v hv p) (Nat.pow_le_pow_right (by decide) (by decide)))]

theorem lockQ_all (v : VChest) (hv : VOk v) (p fact : Nat) (hp : p < v.people.length) : lockQ v p fact (upToL (ownL v p).length) = true := by
  unfold lockQ
  rw [pick_all, bits_own v hv p hp]
  have : natAndNot (viewS v p) (viewS v p) = 0 := by
    refine Nat.eq_of_testBit_eq fun i => ?_
    rw [natAndNot_bit]; simp
  rw [this, tellS_zero v hv]; simp

theorem leastQ_all (v : VChest) (hv : VOk v) (p : Nat) (hp : p < v.people.length) : leastQ v p (upToL (ownL v p).length) = true := by
  unfold leastQ
  rw [pick_all, bits_own v hv p hp]; simp

theorem first_full (v : VChest) (hv : VOk v) (p : Nat) (hp : p < v.people.length) (f : Nat → Bool) (hq : f (bitsS (pickL (ownL v p) (upToL (ownL v p).length))) = true) :
    firstL ((ownL v p).map Int.toNat) f = ((match searchL (ownL v p).length (ownL v p).length (fun ch => f (bitsS (pickL (ownL v p) ch))) with
      | some ch => pickL (ownL v p) ch
      | none => ownL v p), true) := by
  rw [first_pick (ownL_pair v hv p hp) (fun x hx => by have := ownL_range hx; have := hv.c; omega) (ownL_six v hv p) f]
  have := search_full (ownL_six v hv p) (q := fun ch => f (bitsS (pickL (ownL v p) ch))) hq
  rw [this]
  cases searchL (ownL v p).length (ownL v p).length fun ch => f (bitsS (pickL (ownL v p) ch)) with
  | some ch => rfl
  | none => simp only; rw [pick_all]

theorem first_lock (v : VChest) (hv : VOk v) (p fact : Nat) (hp : p < v.people.length) : firstL ((ownL v p).map Int.toNat) (fun s => !(tellS v (natAndNot (viewS v p) s)).testBit fact) = (lockL v p fact, true) :=
  first_full v hv p hp _ (lockQ_all v hv p fact hp)

theorem first_least (v : VChest) (hv : VOk v) (p : Nat) (hp : p < v.people.length) : firstL ((ownL v p).map Int.toNat) (fun s => decide (tellS v s = tellS v (viewS v p))) = (leastL v p, true) :=
  first_full v hv p hp _ (leastQ_all v hv p hp)
end Go.Proofs.Ytakkdmdkelbnjaa.Abs

/- Contracts: Lock. -/
namespace Go.Proofs.Ytakkdmdkelbnjaa.Abs
set_option linter.unusedSimpArgs false
set_option maxHeartbeats 4000000
set_option maxRecDepth 100000
open Go Go.RowKit Go.Proofs

def lockR (c : RChest) (p fact : Int) : List Int × Int :=
  if enterE c [p, c.people.length, fact, c.facts] ≠ 0 then ([], enterE c [p, c.people.length, fact, c.facts]) else (lockL c.v p.toNat fact.toNat, 0)

theorem enterE_four (c : RChest) (n b n' b' : Int) : enterE c [n, b, n', b'] = if (checkR c).2.2 ≠ 0 then (checkR c).2.2 else if (offP 0 (b - 1) n || offP 0 (b' - 1) n') = true then 4 else 0 := by
  unfold enterE pairsOff pairsOff pairsOff
  simp

theorem lock_ok (v : VChest) (hv : VOk v) (p fact : Nat) (hp : p < v.people.length) (hf : fact < v.facts)
    (hen : ∀ m, ACall Try.prog 58 [vchestA v, ints [(p : Int), v.people.length, fact, v.facts]] m fun r m' => ∃ b, m b = none ∧ r = .tuple [.eptr (seenL v b), .int .i64 0] ∧ m' = upd m b (some (.map []))) :
    PCall Try.prog 31 [vchestA v, .int .i64 p, .int .i64 fact] (.tuple [ints (lockL v p fact), .int .i64 0]) := by
  intro m
  refine ACall.forget ?_
  have hc6 := hv.c
  have hf6 := hv.f
  have hp3 := hv.p
  have hvl := viewS_lt v hv p
  have hfp := first_lock v hv p fact hp
  have hlist := list_c (viewS v p) (Nat.lt_of_lt_of_le hvl (Nat.pow_le_pow_right (by decide) (by decide)))
  rw [listS_view v hv p hp] at hlist
  have hfirst := fun (b : Nat) (m : Mem) (hm : ToldM v b m) => first_c ((ownL v p).map Int.toNat) (fun x hx => by obtain ⟨y, hy, rfl⟩ := List.mem_map.1 hx; have := ownL_range hy; omega) (by have := ownL_six v hv p; simp; omega)
    (wok_told (g := 78) (caps := [.eptr [.eptr (seenL v b)], .eptr [.int .i64 (viewS v p)], .eptr [.int .i64 fact]]) (p := fun s => !(tellS v (natAndNot (viewS v p) s)).testBit fact) (v := v) (b := b)
      fun x m l' hx hm => lock1_c v b fact (viewS v p) hv (by omega) (by omega) x m l' hx hm) m hm
  rw [← ints_natsA fun x hx => (ownL_range hx).1, hfp] at hfirst
  have hen := hen m
  have hdr := fun b => view_drop v b p (by omega)
  generalize lockL v p fact = W at *
  simp only [vchestA, vchestL, strs, ints, List.map_cons, List.map_nil] at hen hfirst hlist ⊢
  (refine acall_intro (E := envC (modeAt [8, 10] []) false []) (envCOk _ _ _) rfl Try.func31 rfl Try.call31 (by kernel_rfl) (by simp [Try.ntmps31]) ?_; simp only [Try.f31];  simp (maxSteps := 4000000) only [↓VP0, ↓VP1, ↓VP2, VQ0, VQ1, VQ2, VQ3, VQ4, VT, ite_self, ite_split, Nat.reduceEqDiff, Nat.reduceAdd, Nat.reduceSub, Nat.reduceMul, Nat.reduceLeDiff, Nat.reduceLT, Nat.reduceBEq, Int.reduceLE, Int.reduceLT, Int.reduceNeg, Int.reduceAdd, Int.reduceSub, Int.reduceToNat, ↓reduceIte, reduceCtorEq])
  repeat' (first | intro _ | refine And.intro ?_ ?_)
  refine ACall.told hen ?_
  rintro r m1 ⟨b, hb, rfl, rfl⟩
  have hdr := hdr b
  have hfirst := hfirst b (upd m b (some (.map []))) ⟨[], upd_same _ _ _⟩
  simp only [seenL] at hfirst ⊢
  simp (maxSteps := 4000000) only [↓VP0, ↓VP1, ↓VP2, VQ0, VQ1, VQ2, VQ3, VQ4, VT, ite_self, ite_split, Nat.reduceEqDiff, Nat.reduceAdd, Nat.reduceSub, Nat.reduceMul, Nat.reduceLeDiff, Nat.reduceLT, Nat.reduceBEq, Int.reduceLE, Int.reduceLT, Int.reduceNeg, Int.reduceAdd, Int.reduceSub, Int.reduceToNat, ↓reduceIte, reduceCtorEq, hdr]
  repeat' (first | intro _ | refine And.intro ?_ ?_)
  all_goals try (first | omega | (simp only [List.length_map, List.length_cons, List.length_nil, List.length_append, Nat.zero_add]; omega) | exact Int.natCast_nonneg _ | exact Int.le_trans (by decide) (Int.natCast_nonneg _) | exact Nat.le_of_ble_eq_true rfl)
  (refine ACall.pure (hlist) ?_; try simp (maxSteps := 4000000) only [↓VP0, ↓VP1, ↓VP2, VQ0, VQ1, VQ2, VQ3, VQ4, VT, ite_self, ite_split, Nat.reduceEqDiff, Nat.reduceAdd, Nat.reduceSub, Nat.reduceMul, Nat.reduceLeDiff, Nat.reduceLT, Nat.reduceBEq, Int.reduceLE, Int.reduceLT, Int.reduceNeg, Int.reduceAdd, Int.reduceSub, Int.reduceToNat, ↓reduceIte, reduceCtorEq])
  refine ACall.told hfirst ?_
  rintro r m2 ⟨rfl, hM, hk⟩
  simp (maxSteps := 4000000) only [↓VP0, ↓VP1, ↓VP2, VQ0, VQ1, VQ2, VQ3, VQ4, VT, ite_self, ite_split, Nat.reduceEqDiff, Nat.reduceAdd, Nat.reduceSub, Nat.reduceMul, Nat.reduceLeDiff, Nat.reduceLT, Nat.reduceBEq, Int.reduceLE, Int.reduceLT, Int.reduceNeg, Int.reduceAdd, Int.reduceSub, Int.reduceToNat, ↓reduceIte, reduceCtorEq]
  obtain ⟨m'', q1, _, q2⟩ := forget_keeps (R := True) hb rfl hk trivial
  exact ⟨m'', q1, q2⟩

theorem reflock_ok (v : VChest) (hv : VOk v) (p fact : Nat) (hp : p < v.people.length) (hf : fact < v.facts)
    (hask1 : PCall Try.prog 64 [vchestA v, .int .i64 p, .int .i64 v.people.length, ints [], .int .i64 0] (.int .i64 0)) (hask2 : PCall Try.prog 64 [vchestA v, .int .i64 fact, .int .i64 v.facts, ints [], .int .i64 0] (.int .i64 0)) :
    PCall Try.prog 32 [vchestA v, .int .i64 p, .int .i64 fact] (.tuple [ints (lockL v p fact), .int .i64 0]) := by
  intro m
  have hc6 := hv.c
  have hf6 := hv.f
  have hp3 := hv.p
  have hl6 := ownL_six v hv p
  have hW : lockL v p fact = match searchL (ownL v p).length (ownL v p).length (lockQ v p fact) with
    | some ch => pickL (ownL v p) ch
    | none => ownL v p := rfl
  generalize lockL v p fact = W at *
  have ho := own_c v hv p (by omega)
  have hor : ∀ x ∈ ownL v p, 0 ≤ x ∧ x < (v.copies.length : Int) := fun x hx => ownL_range hx
  have hbo := bits_own v hv p hp
  have hq : ∀ ch, (∀ i ∈ ch, 0 ≤ i ∧ i < ((ownL v p).length : Int)) → lockQ v p fact ch = !(tellS v (bitsS ((ownL v p).filter fun x => decide (x ∉ pickL (ownL v p) ch)))).testBit fact := fun ch h => by
    unfold lockQ
    rw [bits_rest (fun x hx => (hor x hx).1) (fun x hx => (hor x (pickL_mem hx h)).1), hbo]
  generalize ownL v p = l at *
  have htold : ∀ l', (∀ i ∈ l', 0 ≤ i ∧ i < (v.copies.length : Int)) → PCall Try.prog 75 [vchestA v, ints l'] (ints (listS (tellS v (bitsS l')))) := fun l' h => by
    have := told_c v hv l' h
    rwa [toldL_tell v hv _ h] at this
  have hhas : ∀ s, s < 2 ^ 62 → decide ((fact : Int) ∈ listS s) = s.testBit fact := fun s hs => by
    rw [Bool.eq_iff_iff, decide_eq_true_eq]
    unfold listS
    rw [mem_listTo]
    constructor
    · rintro ⟨k, _, h2, h3⟩
      have : fact = k := by omega
      rw [this]; exact h2
    · intro h
      exact ⟨fact, by omega, h, rfl⟩
  have hch := fun k (hk : k ≤ 6) => choices_c l.length k hl6 hk
  simp only [vchestA, vchestL, strs, ints, intss, List.map_nil] at hask1 hask2 ho htold hch ⊢
  (refine acall_intro (E := env fun _ => .imm) (envOk _) rfl Try.func32 rfl Try.call32 (by kernel_rfl) (by simp [Try.ntmps32]) ?_; simp only [Try.f32];  simp (maxSteps := 4000000) only [↓VP0, ↓VP1, ↓VP2, VQ0, VQ1, VQ2, VQ3, VQ4, VT, ite_self, ite_split, Nat.reduceEqDiff, Nat.reduceAdd, Nat.reduceSub, Nat.reduceMul, Nat.reduceLeDiff, Nat.reduceLT, Nat.reduceBEq, Int.reduceLE, Int.reduceLT, Int.reduceNeg, Int.reduceAdd, Int.reduceSub, Int.reduceToNat, ↓reduceIte, reduceCtorEq])
  repeat' (first | intro _ | refine And.intro ?_ ?_)
  (refine ACall.pure (hask1) ?_; try simp (maxSteps := 4000000) only [↓VP0, ↓VP1, ↓VP2, VQ0, VQ1, VQ2, VQ3, VQ4, VT, ite_self, ite_split, Nat.reduceEqDiff, Nat.reduceAdd, Nat.reduceSub, Nat.reduceMul, Nat.reduceLeDiff, Nat.reduceLT, Nat.reduceBEq, Int.reduceLE, Int.reduceLT, Int.reduceNeg, Int.reduceAdd, Int.reduceSub, Int.reduceToNat, ↓reduceIte, reduceCtorEq])
  (refine ACall.pure (hask2) ?_; try simp (maxSteps := 4000000) only [↓VP0, ↓VP1, ↓VP2, VQ0, VQ1, VQ2, VQ3, VQ4, VT, ite_self, ite_split, Nat.reduceEqDiff, Nat.reduceAdd, Nat.reduceSub, Nat.reduceMul, Nat.reduceLeDiff, Nat.reduceLT, Nat.reduceBEq, Int.reduceLE, Int.reduceLT, Int.reduceNeg, Int.reduceAdd, Int.reduceSub, Int.reduceToNat, ↓reduceIte, reduceCtorEq])
  (refine ACall.pure (ho) ?_; try simp (maxSteps := 4000000) only [↓VP0, ↓VP1, ↓VP2, VQ0, VQ1, VQ2, VQ3, VQ4, VT, ite_self, ite_split, Nat.reduceEqDiff, Nat.reduceAdd, Nat.reduceSub, Nat.reduceMul, Nat.reduceLeDiff, Nat.reduceLT, Nat.reduceBEq, Int.reduceLE, Int.reduceLT, Int.reduceNeg, Int.reduceAdd, Int.reduceSub, Int.reduceToNat, ↓reduceIte, reduceCtorEq])
  refine aloop (envOk _) (fun k : Nat => ⟨[(2, .v (.int .i64 fact)), (3, .v (.eptr [.int .i64 v.words, .int .i64 v.facts, .slice 1 (v.people.map AV.str), .int .i64 v.last, .slice 4 (v.copies.map vcopyA), .slice 2 (v.rules.map vruleA)])), (9, .v (ints l)), (10, .v (.int .i64 k))], [], [], m⟩)
    (fun k => k ≤ l.length ∧ ∀ ch ∈ allCh l.length k, lockQ v p fact ch = false) (fun k => l.length - k) 0 (fun _ => rfl) ⟨by omega, by simp [allCh]⟩ (by (simp only [Fits, fitsV, fitsO, fitsL, ↓upd, ↓lookV, ↓lookO, ↓lookL, Nat.reduceEqDiff, ↓reduceIte, ints, and_true, true_and, Option.some.injEq]); simp) ?_
  rintro k ⟨hk, hk1⟩
  simp (maxSteps := 4000000) only [↓VP0, ↓VP1, ↓VP2, VQ0, VQ1, VQ2, VQ3, VQ4, VT, ite_self, ite_split, Nat.reduceEqDiff, Nat.reduceAdd, Nat.reduceSub, Nat.reduceMul, Nat.reduceLeDiff, Nat.reduceLT, Nat.reduceBEq, Int.reduceLE, Int.reduceLT, Int.reduceNeg, Int.reduceAdd, Int.reduceSub, Int.reduceToNat, ↓reduceIte, reduceCtorEq]
  repeat' (first | intro _ | refine And.intro ?_ ?_)
  all_goals try (first | omega | (simp only [List.length_map, List.length_cons, List.length_nil, List.length_append, Nat.zero_add]; omega) | exact Int.natCast_nonneg _ | exact Int.le_trans (by decide) (Int.natCast_nonneg _) | exact Nat.le_of_ble_eq_true rfl)
  · (refine ACall.pure (hch k (by omega)) ?_; try simp (maxSteps := 4000000) only [↓VP0, ↓VP1, ↓VP2, VQ0, VQ1, VQ2, VQ3, VQ4, VT, ite_self, ite_split, Nat.reduceEqDiff, Nat.reduceAdd, Nat.reduceSub, Nat.reduceMul, Nat.reduceLeDiff, Nat.reduceLT, Nat.reduceBEq, Int.reduceLE, Int.reduceLT, Int.reduceNeg, Int.reduceAdd, Int.reduceSub, Int.reduceToNat, ↓reduceIte, reduceCtorEq])
    refine aloop (envOk _) (fun i : Nat => ⟨[(2, .v (.int .i64 fact)), (3, .v (.eptr [.int .i64 v.words, .int .i64 v.facts, .slice 1 (v.people.map AV.str), .int .i64 v.last, .slice 4 (v.copies.map vcopyA), .slice 2 (v.rules.map vruleA)])), (9, .v (ints l)), (10, .v (.int .i64 k)),
        (11, .v (.slice 1 ((choicesL l.length k).map fun x => AV.slice 1 (x.map (AV.int .i64))))), (12, .v (.int .i64 i))], [], [], m⟩)
      (fun i => i ≤ (choicesL l.length k).length ∧ ∀ ch ∈ (choicesL l.length k).take i, lockQ v p fact ch = false) (fun i => (choicesL l.length k).length - i) 0 (fun _ => rfl) ⟨by omega, by simp⟩ (by (simp only [Fits, fitsV, fitsO, fitsL, ↓upd, ↓lookV, ↓lookO, ↓lookL, Nat.reduceEqDiff, ↓reduceIte, ints, and_true, true_and, Option.some.injEq]); simp) ?_
    rintro i ⟨hi, hi1⟩
    simp (maxSteps := 4000000) only [↓VP0, ↓VP1, ↓VP2, VQ0, VQ1, VQ2, VQ3, VQ4, VT, ite_self, ite_split, Nat.reduceEqDiff, Nat.reduceAdd, Nat.reduceSub, Nat.reduceMul, Nat.reduceLeDiff, Nat.reduceLT, Nat.reduceBEq, Int.reduceLE, Int.reduceLT, Int.reduceNeg, Int.reduceAdd, Int.reduceSub, Int.reduceToNat, ↓reduceIte, reduceCtorEq]
    repeat' (first | intro _ | refine And.intro ?_ ?_)
    all_goals try (first | omega | (simp only [List.length_map, List.length_cons, List.length_nil, List.length_append, Nat.zero_add]; omega) | exact Int.natCast_nonneg _ | exact Int.le_trans (by decide) (Int.natCast_nonneg _) | exact Nat.le_of_ble_eq_true rfl)
    · have hlt : i < (choicesL l.length k).length := by omega
      have hmem : (choicesL l.length k)[i]! ∈ choicesL l.length k := by rw [getD_any hlt]; exact List.getElem_mem hlt
      obtain ⟨c1, c2⟩ := choices_mem hmem
      have hqc := hq _ c2
      have hpk := pick_c l (choicesL l.length k)[i]! (by omega) c2
      have hre := rest_c l (pickL l (choicesL l.length k)[i]!) (by omega)
      generalize hrr : (l.filter fun x => decide (x ∉ pickL l (choicesL l.length k)[i]!)) = rl at *
      have hrl : ∀ x ∈ rl, 0 ≤ x ∧ x < (v.copies.length : Int) := fun x hx => by rw [← hrr] at hx; exact hor x (List.mem_filter.1 hx).1
      have ht := htold rl hrl
      have hh := has_c (listS (tellS v (bitsS rl))) (fact : Int)
      rw [hhas _ (Nat.lt_trans (tellS_small v hv _) (by decide))] at hh
      simp only [ints] at hpk hre ht hh
      (refine adraw (by first | exact envOk _ | exact envCOk _ _ _) mixed [⟨false, false, 0⟩, ⟨false, false, 0⟩, ⟨false, false, 0⟩, ⟨false, false, 0⟩, ⟨false, false, 0⟩, ⟨false, false, 0⟩, ⟨false, false, 0⟩, ⟨false, false, 0⟩, ⟨false, false, 0⟩, ⟨false, false, 0⟩, ⟨false, false, 0⟩, ⟨false, false, 0⟩, ⟨false, false, 0⟩] (by kernel_rfl) ?_; show vcOpsD _ _ _ (_ :: _) _ _)
      simp (maxSteps := 4000000) only [↓VP0, ↓VP1, ↓VP2, VQ0, VQ1, VQ2, VQ3, VQ4, VT, ite_self, ite_split, Nat.reduceEqDiff, Nat.reduceAdd, Nat.reduceSub, Nat.reduceMul, Nat.reduceLeDiff, Nat.reduceLT, Nat.reduceBEq, Int.reduceLE, Int.reduceLT, Int.reduceNeg, Int.reduceAdd, Int.reduceSub, Int.reduceToNat, ↓reduceIte, reduceCtorEq]
      repeat' (first | intro _ | refine And.intro ?_ ?_)
      all_goals try (first | omega | (simp only [List.length_map, List.length_cons, List.length_nil, List.length_append, Nat.zero_add]; omega) | exact Int.natCast_nonneg _ | exact Int.le_trans (by decide) (Int.natCast_nonneg _) | exact Nat.le_of_ble_eq_true rfl)
      (refine ⟨_, hpk, ?_⟩; try simp (maxSteps := 4000000) only [↓VP0, ↓VP1, ↓VP2, VQ0, VQ1, VQ2, VQ3, VQ4, VT, ite_self, ite_split, Nat.reduceEqDiff, Nat.reduceAdd, Nat.reduceSub, Nat.reduceMul, Nat.reduceLeDiff, Nat.reduceLT, Nat.reduceBEq, Int.reduceLE, Int.reduceLT, Int.reduceNeg, Int.reduceAdd, Int.reduceSub, Int.reduceToNat, ↓reduceIte, reduceCtorEq])
      (refine ⟨_, hre, ?_⟩; try simp (maxSteps := 4000000) only [↓VP0, ↓VP1, ↓VP2, VQ0, VQ1, VQ2, VQ3, VQ4, VT, ite_self, ite_split, Nat.reduceEqDiff, Nat.reduceAdd, Nat.reduceSub, Nat.reduceMul, Nat.reduceLeDiff, Nat.reduceLT, Nat.reduceBEq, Int.reduceLE, Int.reduceLT, Int.reduceNeg, Int.reduceAdd, Int.reduceSub, Int.reduceToNat, ↓reduceIte, reduceCtorEq])
      (refine ⟨_, ht, ?_⟩; try simp (maxSteps := 4000000) only [↓VP0, ↓VP1, ↓VP2, VQ0, VQ1, VQ2, VQ3, VQ4, VT, ite_self, ite_split, Nat.reduceEqDiff, Nat.reduceAdd, Nat.reduceSub, Nat.reduceMul, Nat.reduceLeDiff, Nat.reduceLT, Nat.reduceBEq, Int.reduceLE, Int.reduceLT, Int.reduceNeg, Int.reduceAdd, Int.reduceSub, Int.reduceToNat, ↓reduceIte, reduceCtorEq])
      (refine ⟨_, hh, ?_⟩; try simp (maxSteps := 4000000) only [↓VP0, ↓VP1, ↓VP2, VQ0, VQ1, VQ2, VQ3, VQ4, VT, ite_self, ite_split, Nat.reduceEqDiff, Nat.reduceAdd, Nat.reduceSub, Nat.reduceMul, Nat.reduceLeDiff, Nat.reduceLT, Nat.reduceBEq, Int.reduceLE, Int.reduceLT, Int.reduceNeg, Int.reduceAdd, Int.reduceSub, Int.reduceToNat, ↓reduceIte, reduceCtorEq])
      repeat' (first | intro _ | refine And.intro ?_ ?_)
      all_goals try (first | omega | (simp only [List.length_map, List.length_cons, List.length_nil, List.length_append, Nat.zero_add]; omega) | exact Int.natCast_nonneg _ | exact Int.le_trans (by decide) (Int.natCast_nonneg _) | exact Nat.le_of_ble_eq_true rfl)
      · have h1 : (tellS v (bitsS rl)).testBit fact = false := by (first | assumption | (rw [← Bool.not_eq_false]; assumption) | (rw [← Bool.not_eq_true]; assumption) | omega)
        rw [h1] at hqc
        (refine ACall.pure (hpk) ?_; try simp (maxSteps := 4000000) only [↓VP0, ↓VP1, ↓VP2, VQ0, VQ1, VQ2, VQ3, VQ4, VT, ite_self, ite_split, Nat.reduceEqDiff, Nat.reduceAdd, Nat.reduceSub, Nat.reduceMul, Nat.reduceLeDiff, Nat.reduceLT, Nat.reduceBEq, Int.reduceLE, Int.reduceLT, Int.reduceNeg, Int.reduceAdd, Int.reduceSub, Int.reduceToNat, ↓reduceIte, reduceCtorEq])
        rw [hW, search_hit (by omega) hlt hk1 hi1 hqc]
      · have h1 : (tellS v (bitsS rl)).testBit fact = true := by (first | assumption | (rw [← Bool.not_eq_false]; assumption) | (rw [← Bool.not_eq_true]; assumption) | omega)
        rw [h1] at hqc
        (refine ⟨i + 1, ?_, by dsimp only; omega, ?_⟩; rotate_left 1; · ((simp only [Fits, fitsV, fitsO, fitsL, ↓upd, ↓lookV, ↓lookO, ↓lookL, Nat.reduceEqDiff, ↓reduceIte, ints, and_true, true_and, Option.some.injEq]); try simp []))
        exact ⟨by omega, forall_take_succ hlt hi1 (by rw [← getD_any hlt]; exact hqc)⟩
    · have hi2 : (choicesL l.length k).take i = choicesL l.length k := List.take_of_length_le (by omega)
      rw [hi2] at hi1
      (refine ⟨k + 1, ?_, by dsimp only; omega, ?_⟩; rotate_left 1; · ((simp only [Fits, fitsV, fitsO, fitsL, ↓upd, ↓lookV, ↓lookO, ↓lookL, Nat.reduceEqDiff, ↓reduceIte, ints, and_true, true_and, Option.some.injEq]); try simp []))
      refine ⟨by omega, fun ch hc => ?_⟩
      rw [allCh_succ] at hc
      rcases List.mem_append.1 hc with hc | hc
      · exact hk1 ch hc
      · exact hi1 ch hc
  · rw [hW, show searchL l.length l.length (lockQ v p fact) = none from find_no fun ch hc => hk1 ch (by rw [show k = l.length by omega]; exact hc)]
end Go.Proofs.Ytakkdmdkelbnjaa.Abs

/- Contracts: Lock, for any chest. -/
namespace Go.Proofs.Ytakkdmdkelbnjaa.Abs
set_option linter.unusedSimpArgs false
set_option maxHeartbeats 4000000
set_option maxRecDepth 100000
open Go Go.RowKit Go.Proofs

theorem bounds_four {n b n' b' : Int} (hb : -9223372036854775000 ≤ b ∧ b ≤ 9223372036854775807) (hb' : -9223372036854775000 ≤ b' ∧ b' ≤ 9223372036854775807) :
    ∀ j, 2 * j + 1 < [n, b, n', b'].length → -9223372036854775000 ≤ [n, b, n', b'][2 * j + 1]! ∧ [n, b, n', b'][2 * j + 1]! ≤ 9223372036854775807 := by
  intro j hj
  have : j = 0 ∨ j = 1 := by simp at hj; omega
  rcases this with rfl | rfl
  · simpa using hb
  · simpa using hb'

theorem raw_people (v : VChest) : v.raw.people = v.people := rfl

theorem lock_top (c : RChest) (hs : namesFit c) (p fact : Int) (hpl : c.people.length ≤ 9223372036854775807) :
    PCall Try.prog 31 [chestA c, .int .i64 p, .int .i64 fact] (.tuple [ints (lockR c p fact).1, .int .i64 (lockR c p fact).2]) := by
  by_cases h0 : enterE c [p, c.people.length, fact, c.facts] ≠ 0
  · have hR : lockR c p fact = ([], enterE c [p, c.people.length, fact, c.facts]) := by unfold lockR; rw [if_pos h0]
    rw [hR]
    intro m
    refine ACall.forget ?_
    have hen := enter_c c hs [p, c.people.length, fact, c.facts] (by simp) (fun hk => bounds_four (by omega) (facts_of hk)) m
    generalize enterE c [p, c.people.length, fact, c.facts] = e at *
    simp only [chestA, chestL, strs, ints, List.map_nil, List.map_cons] at hen ⊢
    (refine acall_intro (E := envC (modeAt [8, 10] []) false []) (envCOk _ _ _) rfl Try.func31 rfl Try.call31 (by kernel_rfl) (by simp [Try.ntmps31]) ?_; simp only [Try.f31];  simp (maxSteps := 4000000) only [↓VP0, ↓VP1, ↓VP2, VQ0, VQ1, VQ2, VQ3, VQ4, VT, ite_self, ite_split, Nat.reduceEqDiff, Nat.reduceAdd, Nat.reduceSub, Nat.reduceMul, Nat.reduceLeDiff, Nat.reduceLT, Nat.reduceBEq, Int.reduceLE, Int.reduceLT, Int.reduceNeg, Int.reduceAdd, Int.reduceSub, Int.reduceToNat, ↓reduceIte, reduceCtorEq])
    repeat' (first | intro _ | refine And.intro ?_ ?_)
    refine ACall.told hen ?_
    rintro r m' (⟨_, rfl, rfl⟩ | ⟨h, _⟩)
    · simp (maxSteps := 4000000) only [↓VP0, ↓VP1, ↓VP2, VQ0, VQ1, VQ2, VQ3, VQ4, VT, ite_self, ite_split, Nat.reduceEqDiff, Nat.reduceAdd, Nat.reduceSub, Nat.reduceMul, Nat.reduceLeDiff, Nat.reduceLT, Nat.reduceBEq, Int.reduceLE, Int.reduceLT, Int.reduceNeg, Int.reduceAdd, Int.reduceSub, Int.reduceToNat, ↓reduceIte, reduceCtorEq, h0]
      exact ⟨m', fun _ _ h => h, rfl⟩
    · exact absurd h h0
  · have hR : lockR c p fact = (lockL c.v p.toNat fact.toNat, 0) := by unfold lockR; rw [if_neg h0]
    rw [hR]
    have h0' : enterE c [p, c.people.length, fact, c.facts] = 0 := by omega
    rw [enterE_four] at h0'
    have q1 : (checkR c).2.2 = 0 := by
      by_cases q : (checkR c).2.2 ≠ 0
      · rw [if_pos q] at h0'; exact absurd h0' q
      · omega
    rw [if_neg (by omega)] at h0'
    have q2 : (offP 0 ((c.people.length : Int) - 1) p || offP 0 (c.facts - 1) fact) = false := by
      cases hq : (offP 0 ((c.people.length : Int) - 1) p || offP 0 (c.facts - 1) fact) with
      | false => rfl
      | true => rw [hq] at h0'; simp at h0'
    obtain ⟨e1, hv⟩ := valid_v q1
    clear hR h0 h0' hpl
    generalize c.v = v at *
    subst e1
    have hf6 := hv.f
    have hp3 := hv.p
    have hen := fun m => enter_ok v hv hs [p, v.people.length, fact, v.facts] (by simp) (bounds_four (by omega) (by omega)) (by
      have q3 : (offP 0 ((v.people.length : Int) - 1) p || offP 0 ((v.facts : Int) - 1) fact) = false := q2
      simp only [Bool.or_eq_false_iff] at q3
      simp [pairsOff, q3.1, q3.2]) m
    simp only [Bool.or_eq_false_iff, offP_false] at q2
    have q2' : (0 ≤ p ∧ p ≤ (v.people.length : Int) - 1) ∧ (0 ≤ fact ∧ fact ≤ (v.facts : Int) - 1) := q2
    have hpn : p = ((p.toNat : Nat) : Int) := by omega
    have hfn : fact = ((fact.toNat : Nat) : Int) := by omega
    have := lock_ok v hv p.toNat fact.toNat (by omega) (by omega) (by rw [← hpn, ← hfn]; exact hen)
    rw [← hpn, ← hfn] at this
    rw [vchestA_raw]; exact this

theorem askedR_nil (e n below : Int) : askedR e n below [] 0 = if e ≠ 0 then e else if offP 0 (below - 1) n = true then 4 else 0 := by
  rw [askedR_eq]; rfl

theorem reflock_top (c : RChest) (hs : namesFit c) (p fact : Int) : PCall Try.prog 32 [chestA c, .int .i64 p, .int .i64 fact] (.tuple [ints (lockR c p fact).1, .int .i64 (lockR c p fact).2]) := by
  have hb : (checkR c).2.2 = 0 → (1 ≤ c.facts ∧ c.facts ≤ 6) ∧ c.people.length ≤ 3 := fun h => by
    obtain ⟨h1, h2, _⟩ := checkR_parts h
    simp only [Bool.or_eq_false_iff, offP_false] at h1
    omega
  have hask1 := asked_c c hs p c.people.length [] 0 fun h => by have := hb h; omega
  have hask2 := asked_c c hs fact c.facts [] 0 fun h => by have := hb h; omega
  rw [askedR_nil] at hask1 hask2
  have hER := enterE_four c p c.people.length fact c.facts
  by_cases h1 : (checkR c).2.2 ≠ 0
  · have hR : lockR c p fact = ([], (checkR c).2.2) := by unfold lockR; rw [hER, if_pos h1, if_pos h1]
    rw [hR]
    rw [if_pos h1] at hask1
    intro m
    generalize (checkR c).2.2 = e at *
    simp only [chestA, chestL, strs, ints, List.map_nil] at hask1 ⊢
    (refine acall_intro (E := env fun _ => .imm) (envOk _) rfl Try.func32 rfl Try.call32 (by kernel_rfl) (by simp [Try.ntmps32]) ?_; simp only [Try.f32];  simp (maxSteps := 4000000) only [↓VP0, ↓VP1, ↓VP2, VQ0, VQ1, VQ2, VQ3, VQ4, VT, ite_self, ite_split, Nat.reduceEqDiff, Nat.reduceAdd, Nat.reduceSub, Nat.reduceMul, Nat.reduceLeDiff, Nat.reduceLT, Nat.reduceBEq, Int.reduceLE, Int.reduceLT, Int.reduceNeg, Int.reduceAdd, Int.reduceSub, Int.reduceToNat, ↓reduceIte, reduceCtorEq])
    repeat' (first | intro _ | refine And.intro ?_ ?_)
    (refine ACall.pure (hask1) ?_; try simp (maxSteps := 4000000) only [↓VP0, ↓VP1, ↓VP2, VQ0, VQ1, VQ2, VQ3, VQ4, VT, ite_self, ite_split, Nat.reduceEqDiff, Nat.reduceAdd, Nat.reduceSub, Nat.reduceMul, Nat.reduceLeDiff, Nat.reduceLT, Nat.reduceBEq, Int.reduceLE, Int.reduceLT, Int.reduceNeg, Int.reduceAdd, Int.reduceSub, Int.reduceToNat, ↓reduceIte, reduceCtorEq])
    simp (maxSteps := 4000000) only [↓VP0, ↓VP1, ↓VP2, VQ0, VQ1, VQ2, VQ3, VQ4, VT, ite_self, ite_split, Nat.reduceEqDiff, Nat.reduceAdd, Nat.reduceSub, Nat.reduceMul, Nat.reduceLeDiff, Nat.reduceLT, Nat.reduceBEq, Int.reduceLE, Int.reduceLT, Int.reduceNeg, Int.reduceAdd, Int.reduceSub, Int.reduceToNat, ↓reduceIte, reduceCtorEq, h1]
    try rfl
  · rw [if_neg h1] at hask1 hask2
    have q1 : (checkR c).2.2 = 0 := by omega
    cases h2 : offP 0 ((c.people.length : Int) - 1) p with
    | true =>
      have hR : lockR c p fact = ([], 4) := by unfold lockR; rw [hER, if_neg h1, h2]; simp
      rw [hR]
      rw [h2, if_pos rfl] at hask1
      intro m
      simp only [chestA, chestL, strs, ints, List.map_nil] at hask1 ⊢
      (refine acall_intro (E := env fun _ => .imm) (envOk _) rfl Try.func32 rfl Try.call32 (by kernel_rfl) (by simp [Try.ntmps32]) ?_; simp only [Try.f32];  simp (maxSteps := 4000000) only [↓VP0, ↓VP1, ↓VP2, VQ0, VQ1, VQ2, VQ3, VQ4, VT, ite_self, ite_split, Nat.reduceEqDiff, Nat.reduceAdd, Nat.reduceSub, Nat.reduceMul, Nat.reduceLeDiff, Nat.reduceLT, Nat.reduceBEq, Int.reduceLE, Int.reduceLT, Int.reduceNeg, Int.reduceAdd, Int.reduceSub, Int.reduceToNat, ↓reduceIte, reduceCtorEq])
      repeat' (first | intro _ | refine And.intro ?_ ?_)
      (refine ACall.pure (hask1) ?_; try simp (maxSteps := 4000000) only [↓VP0, ↓VP1, ↓VP2, VQ0, VQ1, VQ2, VQ3, VQ4, VT, ite_self, ite_split, Nat.reduceEqDiff, Nat.reduceAdd, Nat.reduceSub, Nat.reduceMul, Nat.reduceLeDiff, Nat.reduceLT, Nat.reduceBEq, Int.reduceLE, Int.reduceLT, Int.reduceNeg, Int.reduceAdd, Int.reduceSub, Int.reduceToNat, ↓reduceIte, reduceCtorEq])
      have h4 : ¬ (4 : Int) = 0 := by decide
      simp (maxSteps := 4000000) only [↓VP0, ↓VP1, ↓VP2, VQ0, VQ1, VQ2, VQ3, VQ4, VT, ite_self, ite_split, Nat.reduceEqDiff, Nat.reduceAdd, Nat.reduceSub, Nat.reduceMul, Nat.reduceLeDiff, Nat.reduceLT, Nat.reduceBEq, Int.reduceLE, Int.reduceLT, Int.reduceNeg, Int.reduceAdd, Int.reduceSub, Int.reduceToNat, ↓reduceIte, reduceCtorEq, h4]
      try rfl
    | false =>
      rw [h2, if_neg (by simp)] at hask1
      cases h3 : offP 0 (c.facts - 1) fact with
      | true =>
        have hR : lockR c p fact = ([], 4) := by unfold lockR; rw [hER, if_neg h1, h2, h3]; simp
        rw [hR]
        rw [h3, if_pos rfl] at hask2
        intro m
        simp only [chestA, chestL, strs, ints, List.map_nil] at hask1 hask2 ⊢
        (refine acall_intro (E := env fun _ => .imm) (envOk _) rfl Try.func32 rfl Try.call32 (by kernel_rfl) (by simp [Try.ntmps32]) ?_; simp only [Try.f32];  simp (maxSteps := 4000000) only [↓VP0, ↓VP1, ↓VP2, VQ0, VQ1, VQ2, VQ3, VQ4, VT, ite_self, ite_split, Nat.reduceEqDiff, Nat.reduceAdd, Nat.reduceSub, Nat.reduceMul, Nat.reduceLeDiff, Nat.reduceLT, Nat.reduceBEq, Int.reduceLE, Int.reduceLT, Int.reduceNeg, Int.reduceAdd, Int.reduceSub, Int.reduceToNat, ↓reduceIte, reduceCtorEq])
        repeat' (first | intro _ | refine And.intro ?_ ?_)
        (refine ACall.pure (hask1) ?_; try simp (maxSteps := 4000000) only [↓VP0, ↓VP1, ↓VP2, VQ0, VQ1, VQ2, VQ3, VQ4, VT, ite_self, ite_split, Nat.reduceEqDiff, Nat.reduceAdd, Nat.reduceSub, Nat.reduceMul, Nat.reduceLeDiff, Nat.reduceLT, Nat.reduceBEq, Int.reduceLE, Int.reduceLT, Int.reduceNeg, Int.reduceAdd, Int.reduceSub, Int.reduceToNat, ↓reduceIte, reduceCtorEq])
        (refine ACall.pure (hask2) ?_; try simp (maxSteps := 4000000) only [↓VP0, ↓VP1, ↓VP2, VQ0, VQ1, VQ2, VQ3, VQ4, VT, ite_self, ite_split, Nat.reduceEqDiff, Nat.reduceAdd, Nat.reduceSub, Nat.reduceMul, Nat.reduceLeDiff, Nat.reduceLT, Nat.reduceBEq, Int.reduceLE, Int.reduceLT, Int.reduceNeg, Int.reduceAdd, Int.reduceSub, Int.reduceToNat, ↓reduceIte, reduceCtorEq])
        have h4 : ¬ (4 : Int) = 0 := by decide
        simp (maxSteps := 4000000) only [↓VP0, ↓VP1, ↓VP2, VQ0, VQ1, VQ2, VQ3, VQ4, VT, ite_self, ite_split, Nat.reduceEqDiff, Nat.reduceAdd, Nat.reduceSub, Nat.reduceMul, Nat.reduceLeDiff, Nat.reduceLT, Nat.reduceBEq, Int.reduceLE, Int.reduceLT, Int.reduceNeg, Int.reduceAdd, Int.reduceSub, Int.reduceToNat, ↓reduceIte, reduceCtorEq, h4]
        try rfl
      | false =>
        have hR : lockR c p fact = (lockL c.v p.toNat fact.toNat, 0) := by unfold lockR; rw [hER, if_neg h1, h2, h3]; simp
        rw [hR]
        rw [h3, if_neg (by simp)] at hask2
        obtain ⟨e1, hv⟩ := valid_v q1
        clear hR hER h1 q1 hb
        generalize c.v = v at *
        subst e1
        rw [vchestA_raw] at hask1 hask2 ⊢
        rw [offP_false] at h2 h3
        have h2' : 0 ≤ p ∧ p ≤ (v.people.length : Int) - 1 := h2
        have h3' : 0 ≤ fact ∧ fact ≤ (v.facts : Int) - 1 := h3
        have hpn : p = ((p.toNat : Nat) : Int) := by omega
        have hfn : fact = ((fact.toNat : Nat) : Int) := by omega
        have := reflock_ok v hv p.toNat fact.toNat (by omega) (by omega) (by rw [← hpn]; exact hask1) (by rw [← hfn]; exact hask2)
        rwa [← hpn, ← hfn] at this
end Go.Proofs.Ytakkdmdkelbnjaa.Abs
