/- The statement ChestMay: for any chest, person, copy, fact and words the law returns true. Conditions: none. -/
import Derived.Test.YtakkdmdkelbnjaaK11
import Derived.Test.YtakkdmdkelbnjaaK2
import Derived.Test.YtakkdmdkelbnjaaK10
namespace Go.Proofs.Ytakkdmdkelbnjaa.Abs
set_option linter.unusedSimpArgs false
open Go Go.RowKit Go.Proofs

/-- A copy that somebody may see. -/
def seenC (x : VCopy) (p : Nat) : VCopy := if x.may.testBit p = true then x else { x with may := x.may + 2 ^ p }
def mayV (v : VChest) (k p : Nat) : VChest := { v with copies := v.copies.set k (seenC (v.copies[k]!) p) }

theorem add_bit {s i : Nat} (h : s.testBit i = false) : s + 2 ^ i = s ||| 2 ^ i := by
  have h1 : s % 2 ^ (i + 1) < 2 ^ i := by
    have h2 : s / 2 ^ i % 2 = 0 := by
      rw [Nat.testBit_eq_decide_div_mod_eq, decide_eq_false_iff_not] at h
      omega
    have h3 : s % 2 ^ (i + 1) = s % 2 ^ i + 2 ^ i * (s / 2 ^ i % 2) := by rw [Nat.pow_succ, Nat.mod_mul]
    rw [h3, h2]
    have := Nat.mod_lt s (Nat.pow_pos (n := i) (show 0 < 2 by decide))
    omega
  have h4 : s = 2 ^ (i + 1) * (s / 2 ^ (i + 1)) + s % 2 ^ (i + 1) := (Nat.div_add_mod _ _).symm
  generalize s / 2 ^ (i + 1) = q at h4
  generalize s % 2 ^ (i + 1) = r at h1 h4
  have h5 : 2 ^ (i + 1) = 2 ^ i + 2 ^ i := by rw [Nat.pow_succ]; omega
  have e1 := Nat.two_pow_add_eq_or_of_lt (i := i + 1) (b := r) (by omega) q
  have e2 := Nat.two_pow_add_eq_or_of_lt (i := i + 1) (b := 2 ^ i + r) (by omega) q
  have e3 := Nat.two_pow_add_eq_or_of_lt (i := i) (b := r) h1 1
  rw [Nat.mul_one] at e3
  rw [h4, show 2 ^ (i + 1) * q + r + 2 ^ i = 2 ^ (i + 1) * q + (2 ^ i + r) by omega, e2, e3, e1]
  rw [Nat.or_comm (2 ^ i) r, ← Nat.or_assoc]

theorem seen_bit (x : VCopy) (p i : Nat) : (seenC x p).may.testBit i = (x.may.testBit i || decide (p = i)) := by
  unfold seenC
  split
  · rename_i h
    by_cases e : p = i
    · subst e; rw [h]; rfl
    · simp [e]
  · rename_i h
    rw [Bool.not_eq_true] at h
    show (x.may + 2 ^ p).testBit i = _
    rw [add_bit h, Nat.testBit_or, Nat.testBit_two_pow]

theorem seen_same (x : VCopy) (p : Nat) : (seenC x p).number = x.number ∧ (seenC x p).words = x.words ∧ (seenC x p).facts = x.facts := by
  unfold seenC; split <;> exact ⟨rfl, rfl, rfl⟩

theorem may_get (v : VChest) {k p i : Nat} (hi : i < v.copies.length) : (mayV v k p).copies[i]! = if k = i then seenC (v.copies[i]!) p else v.copies[i]! := by
  have hi' : i < (v.copies.set k (seenC (v.copies[k]!) p)).length := by rw [List.length_set]; exact hi
  show (v.copies.set k (seenC (v.copies[k]!) p))[i]! = _
  rw [getD_any hi', List.getElem_set]
  by_cases e : k = i
  · subst e; rw [if_pos rfl, if_pos rfl]
  · rw [if_neg e, if_neg e, getD_any hi]

theorem may_ok (v : VChest) (hv : VOk v) {k p : Nat} (hk : k < v.copies.length) (hp : p < v.people.length) : VOk (mayV v k p) := by
  have hlen : (mayV v k p).copies.length = v.copies.length := List.length_set ..
  refine ⟨hv.w, hv.f, hv.l, hv.p, hv.names, by rw [hlen]; exact hv.c, fun x hx => ?_, fun i hi => ?_, hv.r, hv.rule⟩
  · obtain ⟨i, hi, rfl⟩ := List.mem_iff_getElem.1 hx
    have hi' : i < v.copies.length := by omega
    rw [← getD_any hi, may_get v hi']
    have hc := hv.copy (v.copies[i]!) (by rw [getD_any hi']; exact List.getElem_mem hi')
    split
    · obtain ⟨s1, s2, s3⟩ := seen_same (v.copies[i]!) p
      rw [s1, s2, s3]
      refine ⟨hc.1, hc.2.1, hc.2.2.1, hc.2.2.2.1, ?_⟩
      unfold seenC
      split
      · exact hc.2.2.2.2
      · rename_i h
        rw [Bool.not_eq_true] at h
        show (v.copies[i]!).may + 2 ^ p < _
        rw [add_bit h]
        exact Nat.or_lt_two_pow hc.2.2.2.2 (Nat.pow_lt_pow_right (by decide) hp)
    · exact hc
  · rw [hlen] at hi
    have h1 := hv.rise i hi
    rw [may_get v (by omega), may_get v hi]
    have s1 := (seen_same (v.copies[i]!) p).1
    have s2 := (seen_same (v.copies[i + 1]!) p).1
    split <;> split <;> omega

theorem may_tell (v : VChest) (k p s : Nat) : tellS (mayV v k p) s = tellS v s := by
  have hlen : (mayV v k p).copies.length = v.copies.length := List.length_set ..
  have hb : ∀ n, n ≤ v.copies.length → baseTo (mayV v k p) s n = baseTo v s n := fun n => by
    induction n with
    | zero => intro _; rfl
    | succ n ih =>
      intro hn
      have hf : ((mayV v k p).copies[n]!).facts = (v.copies[n]!).facts := by
        rw [may_get v (by omega)]; split
        · exact (seen_same _ _).2.2
        · rfl
      unfold baseTo
      rw [ih (by omega), hf]
  unfold tellS
  rw [hlen, hb _ (Nat.le_refl _)]; rfl

theorem may_view (v : VChest) {k p i : Nat} (hp : p < v.people.length) (h : (viewS v p).testBit i = true) : (viewS (mayV v k p) p).testBit i = true := by
  have hlen : (mayV v k p).copies.length = v.copies.length := List.length_set ..
  rw [viewS_bit v p i hp, Bool.and_eq_true, decide_eq_true_eq] at h
  rw [viewS_bit (mayV v k p) p i hp, hlen, decide_eq_true h.1, Bool.true_and, may_get v h.1]
  split
  · rw [seen_bit, h.2]; rfl
  · exact h.2

theorem may_find (v : VChest) {k p ws i : Nat} (hp : p < v.people.length) (h : (findS v p ws).testBit i = true) : (findS (mayV v k p) p ws).testBit i = true := by
  have hlen : (mayV v k p).copies.length = v.copies.length := List.length_set ..
  rw [findS_bit v hp, Bool.and_eq_true, Bool.and_eq_true, decide_eq_true_eq] at h
  rw [findS_bit (mayV v k p) hp, hlen, decide_eq_true h.1, Bool.true_and, may_get v h.1, Bool.and_eq_true]
  split
  · rw [seen_bit, h.2.1, (seen_same _ _).2.1]; exact ⟨rfl, h.2.2⟩
  · exact h.2

theorem fewer_len {a b : List Int} (h : fewerL a b = false) : b.length ≤ a.length := by
  unfold fewerL at h
  split at h
  · omega
  · rw [decide_eq_false_iff_not] at h; omega

theorem may_lock (v : VChest) (hv : VOk v) {k p : Nat} (fact : Nat) (hk : k < v.copies.length) (hp : p < v.people.length) : (lockL v p fact).length ≤ (lockL (mayV v k p) p fact).length := by
  have hlen : (mayV v k p).copies.length = v.copies.length := List.length_set ..
  obtain ⟨r, e, _, _, hmin⟩ := lock_law v hv fact hp
  obtain ⟨r', e', _, hno', _⟩ := lock_law (mayV v k p) (may_ok v hv hk hp) fact (p := p) hp
  rw [e, e', hlen]
  have h1 : (tellS v (natAndNot (viewS v p) (r' &&& viewS v p))).testBit fact = false := by
    cases hq : (tellS v (natAndNot (viewS v p) (r' &&& viewS v p))).testBit fact with
    | false => rfl
    | true =>
      have := told_mono v hv (a := natAndNot (viewS v p) (r' &&& viewS v p)) (b := natAndNot (viewS (mayV v k p) p) r') (fun i _ h => by
        rw [natAndNot_bit, Nat.testBit_and, Bool.and_eq_true] at h
        rw [natAndNot_bit, may_view v hp h.1, Bool.true_and]
        have h2 := h.2
        rw [h.1] at h2
        simpa using h2) fact hq
      rw [may_tell] at hno'
      rw [hno'] at this
      cases this
  have h2 := fewer_len (hmin r' h1)
  have h3 : (listTo (r' &&& viewS v p) v.copies.length).length ≤ (listTo r' v.copies.length).length := by
    rw [Nat.and_comm, ← filter_and]
    exact List.length_filter_le _ _
  omega

/-! ### Cells -/
theorem cellsC_append (a b : List VCopy) : cellsC (a ++ b) = cellsC a ++ cellsC b := by simp [cellsC]

theorem cells_at {l : List VCopy} {k : Nat} (h : k < l.length) (t : List AV) : ∃ r, (cellsC l ++ t).drop (k * 4) = .int .i64 (l[k]!).number :: .int .i64 (l[k]!).words :: .int .i64 (l[k]!).facts :: .int .i64 (l[k]!).may :: r := by
  rw [List.drop_append_of_le_length (by rw [cellsC_length]; omega), cellsC_drop, List.drop_eq_getElem_cons h, getD_any h]
  exact ⟨_, rfl⟩

theorem cells_set {l : List VCopy} {k : Nat} (h : k < l.length) (y : VCopy) (t : List AV) : overlay (cellsC l ++ t) (k * 4) (AV.cells (vcopyA y)) = cellsC (l.set k y) ++ t := by
  have h4 : (AV.cells (vcopyA y)).length = 4 := rfl
  have hl := cellsC_length l
  unfold overlay
  rw [h4, List.take_append_of_le_length (by omega), show k * 4 + 4 = (k + 1) * 4 by omega, List.drop_append_of_le_length (by omega), cellsC_drop]
  have e1 : (cellsC l).take (k * 4) = cellsC (l.take k) := by
    conv => lhs; rw [← List.take_append_drop k l, cellsC_append]
    have : k * 4 = (cellsC (l.take k)).length := by rw [cellsC_length, List.length_take]; omega
    rw [this, List.take_left']
    rfl
  have e2 : l.set k y = l.take k ++ y :: l.drop (k + 1) := by rw [List.set_eq_take_append_cons_drop, if_pos h]
  rw [e1, e2, cellsC_append]
  have e3 : cellsC (y :: l.drop (k + 1)) = AV.cells (vcopyA y) ++ cellsC (l.drop (k + 1)) := rfl
  rw [e3]
  simp
end Go.Proofs.Ytakkdmdkelbnjaa.Abs

namespace Go.Proofs.Ytakkdmdkelbnjaa.Abs
set_option linter.unusedSimpArgs false
set_option maxHeartbeats 4000000
set_option maxRecDepth 100000
open Go Go.RowKit Go.Proofs

theorem acut_thaw_at (k : Nat) {E : Env} {st : St} {n : Nat} (hE : EnvOk E) {ops : Array Oper} {K : St → Prop} {α : Type} {o : Oper} {post : List Oper} (hops : ops.toList.drop k = o :: post) (hg : o.guard = none) (I : α → Head) (J : α → Prop) (hok : ∀ x, (I x).ok = true)
    (h : vcOps E ops (ops.toList.take k) (vcThaw E o (vcOps E ops post (fun st' => ∃ x, J x ∧ Fits st' (I x)))) st) (hk : ∀ x, J x → K (I x).st) : ACut E n ops K st .mk :=
  acut_thaw hE (ops.toList.take k) o post (by rw [← hops, List.take_append_drop]) hg I J hok h hk

theorem chestMay_bad (c : RChest) (hs : namesFit c) (hpl : c.people.length ≤ 9223372036854775807) (x y z w : Nat) (h : ¬ ((checkR c).2.2 = 0 ∧ 0 < c.people.length)) :
    PCall Try.prog 16 [chestA c, .agg [.int .u8 x, .int .u8 y, .int .u8 z, .int .u8 w]] (.bool true) := by
  intro m
  have h1 := peopled_no c hs h
  have h2 := find_top c hs 0 [] hpl
  have h3 := find_bad h []
  have aw := awake_c
  generalize findR c 0 [] = k at *
  simp only [chestA, chestL, strs, ints, List.map_nil] at *
  (refine acall_intro (E := env fun _ => .imm) (envOk _) rfl Try.func16 rfl Try.call16 (by kernel_rfl) (by simp [Try.ntmps16]) ?_; simp only [Try.f16];  simp (maxSteps := 4000000) only [↓VP0, ↓VP1, ↓VP2, VQ0, VQ1, VQ2, VQ3, VQ4, VT, ite_self, ite_split, Nat.reduceEqDiff, Nat.reduceAdd, Nat.reduceSub, Nat.reduceMul, Nat.reduceLeDiff, Nat.reduceLT, Nat.reduceBEq, Int.reduceLE, Int.reduceLT, Int.reduceNeg, Int.reduceAdd, Int.reduceSub, Int.reduceToNat, ↓reduceIte, reduceCtorEq])
  (repeat' (first | intro _ | refine And.intro ?_ ?_ | (refine ACall.pure (by with_reducible assumption) ?_; try simp (maxSteps := 4000000) only [↓VP0, ↓VP1, ↓VP2, VQ0, VQ1, VQ2, VQ3, VQ4, VT, ite_self, ite_split, Nat.reduceEqDiff, Nat.reduceAdd, Nat.reduceSub, Nat.reduceMul, Nat.reduceLeDiff, Nat.reduceLT, Nat.reduceBEq, Int.reduceLE, Int.reduceLT, Int.reduceNeg, Int.reduceAdd, Int.reduceSub, Int.reduceToNat, ↓reduceIte, reduceCtorEq, eq_self, decide_true, decide_false, if_true, if_false, not_true_eq_false, List.append_eq, h3]) | (refine VPure.of (by with_reducible assumption) ?_; try simp (maxSteps := 4000000) only [↓VP0, ↓VP1, ↓VP2, VQ0, VQ1, VQ2, VQ3, VQ4, VT, ite_self, ite_split, Nat.reduceEqDiff, Nat.reduceAdd, Nat.reduceSub, Nat.reduceMul, Nat.reduceLeDiff, Nat.reduceLT, Nat.reduceBEq, Int.reduceLE, Int.reduceLT, Int.reduceNeg, Int.reduceAdd, Int.reduceSub, Int.reduceToNat, ↓reduceIte, reduceCtorEq, eq_self, decide_true, decide_false, if_true, if_false, not_true_eq_false, List.append_eq, h3])))
  all_goals try (first | omega | (simp only [List.length_map, List.length_cons, List.length_nil, List.length_append, Nat.zero_add]; omega) | exact Int.natCast_nonneg _ | exact Int.le_trans (by decide) (Int.natCast_nonneg _) | exact Nat.le_of_ble_eq_true rfl)

theorem chestMay_none (v : VChest) (hv : VOk v) (hs : namesFit v.raw) (hp : 0 < v.people.length) (hc : v.copies.length = 0) (x y z w : Nat) :
    PCall Try.prog 16 [vchestA v, .agg [.int .u8 x, .int .u8 y, .int .u8 z, .int .u8 w]] (.bool true) := by
  intro m
  have h1 := peopled_yes v hv hs hp
  have h2 := find_all v hv hs hp
  have aw := awake_c
  have hl : v.copies = [] := List.length_eq_zero_iff.1 hc
  simp only [vchestA, vchestL, strs, ints, List.map_nil, hl, Int.natCast_zero, Int.ofNat_eq_natCast] at *
  (refine acall_intro (E := env fun _ => .imm) (envOk _) rfl Try.func16 rfl Try.call16 (by kernel_rfl) (by simp [Try.ntmps16]) ?_; simp only [Try.f16];  simp (maxSteps := 4000000) only [↓VP0, ↓VP1, ↓VP2, VQ0, VQ1, VQ2, VQ3, VQ4, VT, ite_self, ite_split, Nat.reduceEqDiff, Nat.reduceAdd, Nat.reduceSub, Nat.reduceMul, Nat.reduceLeDiff, Nat.reduceLT, Nat.reduceBEq, Int.reduceLE, Int.reduceLT, Int.reduceNeg, Int.reduceAdd, Int.reduceSub, Int.reduceToNat, ↓reduceIte, reduceCtorEq])
  (repeat' (first | intro _ | refine And.intro ?_ ?_ | ((refine ACall.pure (by with_reducible assumption) ?_; try simp (maxSteps := 4000000) only [↓VP0, ↓VP1, ↓VP2, VQ0, VQ1, VQ2, VQ3, VQ4, VT, ite_self, ite_split, Nat.reduceEqDiff, Nat.reduceAdd, Nat.reduceSub, Nat.reduceMul, Nat.reduceLeDiff, Nat.reduceLT, Nat.reduceBEq, Int.reduceLE, Int.reduceLT, Int.reduceNeg, Int.reduceAdd, Int.reduceSub, Int.reduceToNat, ↓reduceIte, reduceCtorEq]); try simp (maxSteps := 4000000) only [↓VP0, ↓VP1, ↓VP2, VQ0, VQ1, VQ2, VQ3, VQ4, VT, ite_self, ite_split, Nat.reduceEqDiff, Nat.reduceAdd, Nat.reduceSub, Nat.reduceMul, Nat.reduceLeDiff, Nat.reduceLT, Nat.reduceBEq, Int.reduceLE, Int.reduceLT, Int.reduceNeg, Int.reduceAdd, Int.reduceSub, Int.reduceToNat, ↓reduceIte, reduceCtorEq, eq_self, decide_true, decide_false, if_true, if_false, not_true_eq_false, List.append_eq]) | (refine VPure.of (by with_reducible assumption) ?_; try simp (maxSteps := 4000000) only [↓VP0, ↓VP1, ↓VP2, VQ0, VQ1, VQ2, VQ3, VQ4, VT, ite_self, ite_split, Nat.reduceEqDiff, Nat.reduceAdd, Nat.reduceSub, Nat.reduceMul, Nat.reduceLeDiff, Nat.reduceLT, Nat.reduceBEq, Int.reduceLE, Int.reduceLT, Int.reduceNeg, Int.reduceAdd, Int.reduceSub, Int.reduceToNat, ↓reduceIte, reduceCtorEq, eq_self, decide_true, decide_false, if_true, if_false, not_true_eq_false, List.append_eq])))
  all_goals try (first | omega | (simp only [List.length_map, List.length_cons, List.length_nil, List.length_append, Nat.zero_add]; omega) | exact Int.natCast_nonneg _ | exact Int.le_trans (by decide) (Int.natCast_nonneg _) | exact Nat.le_of_ble_eq_true rfl)

theorem vidx3_p {p : Nat} (h : p = 0 ∨ p = 1 ∨ p = 2) (K : AV → Prop) : VIdx [.int .i64 1, .int .i64 2, .int .i64 4] (p : Int) K = K (.int .i64 ((2 ^ p : Nat) : Int)) := by
  rcases h with rfl | rfl | rfl <;> simp [VIdx]

theorem upd_self_none {α : Type} {f : Nat → Option α} {b : Nat} (h : f b = none) (x y : Option α) : upd (upd (upd f b x) b y) b none = f := by
  funext k
  unfold upd
  by_cases e : k = b
  · subst e; simp [h]
  · simp [e]

theorem cells_map (l : List VCopy) : (List.map AV.cells (List.map vcopyA l)).flatten = cellsC l := by rw [List.map_map]; rfl

theorem chestMay_ok (v : VChest) (hv : VOk v) (hs : namesFit v.raw) (x y z w : Nat) (hp : 0 < v.people.length) (hc : 0 < v.copies.length) (hx : x < 256) (hy : y < 256) (hz : z < 256) (hw : w < 256) :
    PCall Try.prog 16 [vchestA v, .agg [.int .u8 x, .int .u8 y, .int .u8 z, .int .u8 w]] (.bool true) := by
  intro m
  have h3 := hv.p
  have hc6 := hv.c
  have hf6 := hv.f
  have hw5 := hv.w
  have h1 := peopled_yes v hv hs hp
  have hff : z % v.facts < v.facts := Nat.mod_lt _ (by omega)
  have hpp : x % v.people.length < v.people.length := Nat.mod_lt _ hp
  have hkk : y % v.copies.length < v.copies.length := Nat.mod_lt _ hc
  generalize hF : z % v.facts = f at *
  generalize hP : x % v.people.length = p at *
  generalize hK : y % v.copies.length = k at *
  have hv' := may_ok v hv hkk hpp
  have k1 := lawbits_c w v.words hw (by omega)
  have r1 := find_ok v hv hs hpp w
  have r2 := find_ok (mayV v k p) hv' hs (p := p) hpp w
  have q1 := lock_top v.raw hs (p : Nat) f (by show v.people.length ≤ _; omega)
  rw [vchestA_raw, lock_v hv hpp hff] at q1
  have q2 := lock_top (mayV v k p).raw hs (p : Nat) f (by show v.people.length ≤ _; omega)
  rw [vchestA_raw, lock_v hv' (p := p) hpp (fact := f) hff] at q2
  have hlen : (mayV v k p).copies.length = v.copies.length := List.length_set ..
  have hle := may_lock v hv f hkk hpp
  have s1 : PCall Try.prog 43 [ints (listTo (findS v p (bitsS (listTo w v.words))) v.copies.length), ints (listTo (findS (mayV v k p) p (bitsS (listTo w v.words))) v.copies.length)] (.bool true) :=
    subset_ok (Nat.le_refl _) fun i _ hi => may_find v hpp hi
  have hbit := bitN_c (v.copies[k]!).may (p : Int) (may_lt v hv hkk).1 (by omega)
  rw [Int.toNat_natCast] at hbit
  have aw := awake_c
  have ek : (mayV v k p).copies = v.copies.set k (seenC (v.copies[k]!) p) := rfl
  have ew : (mayV v k p).words = v.words := rfl
  have ef : (mayV v k p).facts = v.facts := rfl
  have epp : (mayV v k p).people = v.people := rfl
  have ell : (mayV v k p).last = v.last := rfl
  have err : (mayV v k p).rules = v.rules := rfl
  have hcm := cells_map v.copies
  have hmb := (may_lt v hv hkk).1
  have hcl := cellsC_length v.copies
  have hget := fun t => cells_at hkk t
  have hset := fun t => cells_set hkk (seenC (v.copies[k]!) p) t
  rw [hlen, ew] at r2
  generalize lockL v p f = L1 at *
  generalize lockL (mayV v k p) p f = L2 at *
  generalize findS (mayV v k p) p (bitsS (listTo w v.words)) = F2 at *
  generalize findS v p (bitsS (listTo w v.words)) = F1 at *
  simp only [vchestA, vchestL, ek, ew, ef, epp, ell, err] at r2 q2
  simp only [vchestA, vchestL, strs, ints, List.map_nil] at *
  (refine acall_intro (E := envC (modeAt [11, 12] []) false [6, 10]) (envCOk _ _ _) rfl Try.func16 rfl Try.call16 (by kernel_rfl) (by simp [Try.ntmps16]) ?_; simp only [Try.f16];  simp (maxSteps := 4000000) only [↓VP0, ↓VP1, ↓VP2, VQ0, VQ1, VQ2, VQ3, VQ4, VT, ite_self, ite_split, Nat.reduceEqDiff, Nat.reduceAdd, Nat.reduceSub, Nat.reduceMul, Nat.reduceLeDiff, Nat.reduceLT, Nat.reduceBEq, Int.reduceLE, Int.reduceLT, Int.reduceNeg, Int.reduceAdd, Int.reduceSub, Int.reduceToNat, ↓reduceIte, reduceCtorEq])
  repeat' (first | intro _ | refine And.intro ?_ ?_)
  ((refine ACall.pure (h1) ?_; try simp (maxSteps := 4000000) only [↓VP0, ↓VP1, ↓VP2, VQ0, VQ1, VQ2, VQ3, VQ4, VT, ite_self, ite_split, Nat.reduceEqDiff, Nat.reduceAdd, Nat.reduceSub, Nat.reduceMul, Nat.reduceLeDiff, Nat.reduceLT, Nat.reduceBEq, Int.reduceLE, Int.reduceLT, Int.reduceNeg, Int.reduceAdd, Int.reduceSub, Int.reduceToNat, ↓reduceIte, reduceCtorEq]); try simp (maxSteps := 4000000) only [↓VP0, ↓VP1, ↓VP2, VQ0, VQ1, VQ2, VQ3, VQ4, VT, ite_self, ite_split, Nat.reduceEqDiff, Nat.reduceAdd, Nat.reduceSub, Nat.reduceMul, Nat.reduceLeDiff, Nat.reduceLT, Nat.reduceBEq, Int.reduceLE, Int.reduceLT, Int.reduceNeg, Int.reduceAdd, Int.reduceSub, Int.reduceToNat, ↓reduceIte, reduceCtorEq, eq_self, decide_true, decide_false, if_true, if_false, not_true_eq_false, List.append_eq])
  repeat' (first | intro _ | refine And.intro ?_ ?_)
  all_goals try (first | omega | (simp only [List.length_map, List.length_cons, List.length_nil, List.length_append, Nat.zero_add]; omega) | exact Int.natCast_nonneg _ | exact Int.le_trans (by decide) (Int.natCast_nonneg _) | exact Nat.le_of_ble_eq_true rfl)
  (refine adraw (by first | exact envOk _ | exact envCOk _ _ _) mixed [⟨false, false, 0⟩, ⟨false, false, 0⟩, ⟨false, false, 0⟩, ⟨false, false, 0⟩, ⟨false, false, 0⟩, ⟨false, false, 0⟩, ⟨false, false, 0⟩, ⟨false, false, 0⟩, ⟨false, false, 0⟩, ⟨false, false, 0⟩, ⟨false, false, 0⟩, ⟨false, false, 0⟩, ⟨false, false, 0⟩, ⟨false, false, 0⟩, ⟨false, false, 0⟩, ⟨false, false, 0⟩, ⟨false, false, 0⟩, ⟨false, false, 0⟩, ⟨false, false, 0⟩, ⟨false, false, 0⟩, ⟨false, false, 0⟩, ⟨false, false, 0⟩, ⟨false, false, 0⟩, ⟨false, false, 0⟩, ⟨false, false, 0⟩, ⟨false, false, 0⟩, ⟨false, false, 0⟩, ⟨false, false, 0⟩, ⟨false, false, 0⟩] (by kernel_rfl) ?_; show vcOpsD _ _ _ (_ :: _) _ _)
  simp (maxSteps := 4000000) only [↓VP0, ↓VP1, ↓VP2, VQ0, VQ1, VQ2, VQ3, VQ4, VT, ite_self, ite_split, Nat.reduceEqDiff, Nat.reduceAdd, Nat.reduceSub, Nat.reduceMul, Nat.reduceLeDiff, Nat.reduceLT, Nat.reduceBEq, Int.reduceLE, Int.reduceLT, Int.reduceNeg, Int.reduceAdd, Int.reduceSub, Int.reduceToNat, ↓reduceIte, reduceCtorEq, natMod, hP, hK, hF]
  (repeat' (first | intro _ | refine And.intro ?_ ?_ | (refine ACall.pure (by with_reducible assumption) ?_; try simp (maxSteps := 4000000) only [↓VP0, ↓VP1, ↓VP2, VQ0, VQ1, VQ2, VQ3, VQ4, VT, ite_self, ite_split, Nat.reduceEqDiff, Nat.reduceAdd, Nat.reduceSub, Nat.reduceMul, Nat.reduceLeDiff, Nat.reduceLT, Nat.reduceBEq, Int.reduceLE, Int.reduceLT, Int.reduceNeg, Int.reduceAdd, Int.reduceSub, Int.reduceToNat, ↓reduceIte, reduceCtorEq, eq_self, decide_true, decide_false, if_true, if_false, not_true_eq_false, List.append_eq, natMod, hP, hK, hF]) | (refine VPure.of (by with_reducible assumption) ?_; try simp (maxSteps := 4000000) only [↓VP0, ↓VP1, ↓VP2, VQ0, VQ1, VQ2, VQ3, VQ4, VT, ite_self, ite_split, Nat.reduceEqDiff, Nat.reduceAdd, Nat.reduceSub, Nat.reduceMul, Nat.reduceLeDiff, Nat.reduceLT, Nat.reduceBEq, Int.reduceLE, Int.reduceLT, Int.reduceNeg, Int.reduceAdd, Int.reduceSub, Int.reduceToNat, ↓reduceIte, reduceCtorEq, eq_self, decide_true, decide_false, if_true, if_false, not_true_eq_false, List.append_eq, natMod, hP, hK, hF])))
  all_goals try (first | omega | (simp only [List.length_map, List.length_cons, List.length_nil, List.length_append, Nat.zero_add]; omega) | exact Int.natCast_nonneg _ | exact Int.le_trans (by decide) (Int.natCast_nonneg _) | exact Nat.le_of_ble_eq_true rfl)
  refine acut_thaw_at 3 (envCOk _ _ _) rfl rfl (fun (q : Nat × Nat × List AV) => ⟨[(2, .v (.eptr [.int .i64 v.words, .int .i64 v.facts, .slice 1 (v.people.map AV.str), .int .i64 v.last, .slice 4 (v.copies.map vcopyA), .slice 2 (v.rules.map vruleA)])), (7, .v (.int .i64 p)), (8, .v (.int .i64 k)), (9, .v (.int .i64 f)),
      (10, .v (.slice 1 ((listTo w v.words).map (AV.int .i64)))), (11, .loc 11 0)], [], [(11, [.int .i64 v.words, .int .i64 v.facts, .slice 1 (v.people.map AV.str), .int .i64 v.last, .mslice q.1 0 v.copies.length q.2.1, .slice 2 (v.rules.map vruleA)])], upd m q.1 (some (.cells (cellsC v.copies ++ q.2.2)))⟩)
    (fun q => m q.1 = none ∧ v.copies.length ≤ q.2.1 ∧ q.2.1 ≤ maxLen) (fun _ => rfl) ?_ ?_
  · show vcOps _ _ (_ :: _) _ _
    simp (maxSteps := 4000000) only [↓VP0, ↓VP1, ↓VP2, VQ0, VQ1, VQ2, VQ3, VQ4, VT, ite_self, ite_split, Nat.reduceEqDiff, Nat.reduceAdd, Nat.reduceSub, Nat.reduceMul, Nat.reduceLeDiff, Nat.reduceLT, Nat.reduceBEq, Int.reduceLE, Int.reduceLT, Int.reduceNeg, Int.reduceAdd, Int.reduceSub, Int.reduceToNat, ↓reduceIte, reduceCtorEq, List.take_succ_cons, List.take_zero, vcThaw]
    repeat' (first | intro _ | refine And.intro ?_ ?_)
    all_goals try (first | omega | (simp only [List.length_map, List.length_cons, List.length_nil, List.length_append, Nat.zero_add]; omega) | exact Int.natCast_nonneg _ | exact Int.le_trans (by decide) (Int.natCast_nonneg _) | exact Nat.le_of_ble_eq_true rfl)
    rename_i b cap tail q1 q2 q3
    refine ⟨(b, cap, tail), ⟨q1, q2, q3⟩, ?_⟩
    (simp only [Fits, fitsV, fitsO, fitsL, ↓upd, ↓lookV, ↓lookO, ↓lookL, Nat.reduceEqDiff, ↓reduceIte, ints, and_true, true_and, Option.some.injEq])
    rw [hcm]
  rintro ⟨b, cap, tail⟩ ⟨hb, hcap, hcm2⟩
  dsimp only at hb hcap hcm2 ⊢
  obtain ⟨R, hdr⟩ := hget tail
  have hst := hset tail
  simp (maxSteps := 4000000) only [↓VP0, ↓VP1, ↓VP2, VQ0, VQ1, VQ2, VQ3, VQ4, VT, ite_self, ite_split, Nat.reduceEqDiff, Nat.reduceAdd, Nat.reduceSub, Nat.reduceMul, Nat.reduceLeDiff, Nat.reduceLT, Nat.reduceBEq, Int.reduceLE, Int.reduceLT, Int.reduceNeg, Int.reduceAdd, Int.reduceSub, Int.reduceToNat, ↓reduceIte, reduceCtorEq, ↓hdr]
  repeat' (first | intro _ | refine And.intro ?_ ?_)
  all_goals try (first | omega | (simp only [List.length_map, List.length_cons, List.length_nil, List.length_append, Nat.zero_add]; omega) | exact Int.natCast_nonneg _ | exact Int.le_trans (by decide) (Int.natCast_nonneg _) | exact Nat.le_of_ble_eq_true rfl)
  have hYs := seen_same (v.copies[k]!) p
  have hp3 : p = 0 ∨ p = 1 ∨ p = 2 := by omega
  have hYm : (seenC (v.copies[k]!) p).may = if (v.copies[k]!).may.testBit p = true then (v.copies[k]!).may else (v.copies[k]!).may + 2 ^ p := by unfold seenC; split <;> rfl
  have hcy : AV.cells (vcopyA (seenC (v.copies[k]!) p)) = [.int .i64 (v.copies[k]!).number, .int .i64 (v.copies[k]!).words, .int .i64 (v.copies[k]!).facts, .int .i64 (seenC (v.copies[k]!) p).may] := by
    show [AV.int .i64 ((seenC (v.copies[k]!) p).number : Int), AV.int .i64 ((seenC (v.copies[k]!) p).words : Int), AV.int .i64 ((seenC (v.copies[k]!) p).facts : Int), AV.int .i64 ((seenC (v.copies[k]!) p).may : Int)] = _
    rw [hYs.1, hYs.2.1, hYs.2.2]
  rw [hcy] at hst
  generalize seenC (v.copies[k]!) p = Y at *
  (refine ACall.pure (hbit) ?_; try simp (maxSteps := 4000000) only [↓VP0, ↓VP1, ↓VP2, VQ0, VQ1, VQ2, VQ3, VQ4, VT, ite_self, ite_split, Nat.reduceEqDiff, Nat.reduceAdd, Nat.reduceSub, Nat.reduceMul, Nat.reduceLeDiff, Nat.reduceLT, Nat.reduceBEq, Int.reduceLE, Int.reduceLT, Int.reduceNeg, Int.reduceAdd, Int.reduceSub, Int.reduceToNat, ↓reduceIte, reduceCtorEq, eq_self, decide_true, decide_false, if_true, if_false, not_true_eq_false, List.append_eq, ↓hdr])
  repeat' (first | intro _ | refine And.intro ?_ ?_)
  all_goals try (first | omega | (simp only [List.length_map, List.length_cons, List.length_nil, List.length_append, Nat.zero_add]; omega) | exact Int.natCast_nonneg _ | exact Int.le_trans (by decide) (Int.natCast_nonneg _) | exact Nat.le_of_ble_eq_true rfl)
  · have hB : (v.copies[k]!).may.testBit p = false := by assumption
    rw [if_neg (by rw [hB]; decide)] at hYm
    have hvx := vidx3_p hp3
    have hp2 : 2 ^ p ≤ 2 ^ 2 := Nat.pow_le_pow_right (by decide) (by omega)
    (refine adraw (by first | exact envOk _ | exact envCOk _ _ _) mixed [⟨false, false, 0⟩, ⟨false, false, 0⟩, ⟨false, false, 0⟩, ⟨false, false, 0⟩, ⟨false, false, 0⟩, ⟨false, false, 0⟩, ⟨false, false, 0⟩, ⟨false, false, 0⟩, ⟨false, false, 0⟩] (by kernel_rfl) ?_; show vcOpsD _ _ _ (_ :: _) _ _)
    simp (maxSteps := 4000000) only [↓VP0, ↓VP1, ↓VP2, VQ0, VQ1, VQ2, VQ3, VQ4, VT, ite_self, ite_split, Nat.reduceEqDiff, Nat.reduceAdd, Nat.reduceSub, Nat.reduceMul, Nat.reduceLeDiff, Nat.reduceLT, Nat.reduceBEq, Int.reduceLE, Int.reduceLT, Int.reduceNeg, Int.reduceAdd, Int.reduceSub, Int.reduceToNat, ↓reduceIte, reduceCtorEq, ↓hvx]
    repeat' (first | intro _ | refine And.intro ?_ ?_)
    all_goals try (first | omega | (simp only [List.length_map, List.length_cons, List.length_nil, List.length_append, Nat.zero_add]; omega) | exact Int.natCast_nonneg _ | exact Int.le_trans (by decide) (Int.natCast_nonneg _) | exact Nat.le_of_ble_eq_true rfl)
    refine acut_melt (envCOk _ _ _) (fun (_ : Unit) => ⟨[(2, .v (.eptr [.int .i64 v.words, .int .i64 v.facts, .slice 1 (v.people.map AV.str), .int .i64 v.last, .slice 4 (v.copies.map vcopyA), .slice 2 (v.rules.map vruleA)])), (7, .v (.int .i64 p)), (8, .v (.int .i64 k)), (9, .v (.int .i64 f)),
        (10, .v (.slice 1 ((listTo w v.words).map (AV.int .i64)))), (11, .loc 11 0)], [], [(11, [.int .i64 v.words, .int .i64 v.facts, .slice 1 (v.people.map AV.str), .int .i64 v.last, .slice 4 ((v.copies.set k Y).map vcopyA), .slice 2 (v.rules.map vruleA)])], m⟩)
      (fun _ => True) (fun _ => b) (fun _ => 4) (fun _ => (v.copies.set k Y).map vcopyA) (fun _ => tail) (fun _ => rfl) ?_ ?_
    · show vcOps _ _ (_ :: _) _ _
      simp (maxSteps := 4000000) only [↓VP0, ↓VP1, ↓VP2, VQ0, VQ1, VQ2, VQ3, VQ4, VT, ite_self, ite_split, Nat.reduceEqDiff, Nat.reduceAdd, Nat.reduceSub, Nat.reduceMul, Nat.reduceLeDiff, Nat.reduceLT, Nat.reduceBEq, Int.reduceLE, Int.reduceLT, Int.reduceNeg, Int.reduceAdd, Int.reduceSub, Int.reduceToNat, ↓reduceIte, reduceCtorEq, ↓hdr]
      repeat' (first | intro _ | refine And.intro ?_ ?_)
      all_goals try (first | omega | (simp only [List.length_map, List.length_cons, List.length_nil, List.length_append, Nat.zero_add]; omega) | exact Int.natCast_nonneg _ | exact Int.le_trans (by decide) (Int.natCast_nonneg _) | exact Nat.le_of_ble_eq_true rfl)
      refine ⟨(), ⟨_, rfl, ?_, ?_⟩, ?_⟩
      · rw [upd_same, cells_map, ← hst]
        simp [overlay, hYm]
      · intro e he
        obtain ⟨q, _, rfl⟩ := List.mem_map.1 he
        exact ⟨rfl, rfl⟩
      · simp only [Fits, fitsV, fitsO, fitsL, St.melt, ↓upd, ↓lookV, ↓lookO, ↓lookL, Nat.reduceEqDiff, ↓reduceIte, ints, and_true, true_and, Option.some.injEq, meltV, meltA, Option.map_some, List.map_cons, List.map_nil]
        exact ⟨by rw [if_pos ⟨by simp, hcap, hcm2⟩], upd_self_none hb _ _⟩
    intro _ _
    simp (maxSteps := 4000000) only [↓VP0, ↓VP1, ↓VP2, VQ0, VQ1, VQ2, VQ3, VQ4, VT, ite_self, ite_split, Nat.reduceEqDiff, Nat.reduceAdd, Nat.reduceSub, Nat.reduceMul, Nat.reduceLeDiff, Nat.reduceLT, Nat.reduceBEq, Int.reduceLE, Int.reduceLT, Int.reduceNeg, Int.reduceAdd, Int.reduceSub, Int.reduceToNat, ↓reduceIte, reduceCtorEq]
    (repeat' (first | intro _ | refine And.intro ?_ ?_ | ((refine ACall.pure (by with_reducible assumption) ?_; try simp (maxSteps := 4000000) only [↓VP0, ↓VP1, ↓VP2, VQ0, VQ1, VQ2, VQ3, VQ4, VT, ite_self, ite_split, Nat.reduceEqDiff, Nat.reduceAdd, Nat.reduceSub, Nat.reduceMul, Nat.reduceLeDiff, Nat.reduceLT, Nat.reduceBEq, Int.reduceLE, Int.reduceLT, Int.reduceNeg, Int.reduceAdd, Int.reduceSub, Int.reduceToNat, ↓reduceIte, reduceCtorEq]); try simp (maxSteps := 4000000) only [↓VP0, ↓VP1, ↓VP2, VQ0, VQ1, VQ2, VQ3, VQ4, VT, ite_self, ite_split, Nat.reduceEqDiff, Nat.reduceAdd, Nat.reduceSub, Nat.reduceMul, Nat.reduceLeDiff, Nat.reduceLT, Nat.reduceBEq, Int.reduceLE, Int.reduceLT, Int.reduceNeg, Int.reduceAdd, Int.reduceSub, Int.reduceToNat, ↓reduceIte, reduceCtorEq, eq_self, decide_true, decide_false, if_true, if_false, not_true_eq_false, List.append_eq]) | (refine VPure.of (by with_reducible assumption) ?_; try simp (maxSteps := 4000000) only [↓VP0, ↓VP1, ↓VP2, VQ0, VQ1, VQ2, VQ3, VQ4, VT, ite_self, ite_split, Nat.reduceEqDiff, Nat.reduceAdd, Nat.reduceSub, Nat.reduceMul, Nat.reduceLeDiff, Nat.reduceLT, Nat.reduceBEq, Int.reduceLE, Int.reduceLT, Int.reduceNeg, Int.reduceAdd, Int.reduceSub, Int.reduceToNat, ↓reduceIte, reduceCtorEq, eq_self, decide_true, decide_false, if_true, if_false, not_true_eq_false, List.append_eq])))
    all_goals try (first | omega | (simp only [List.length_map, List.length_cons, List.length_nil, List.length_append, Nat.zero_add]; omega) | exact Int.natCast_nonneg _ | exact Int.le_trans (by decide) (Int.natCast_nonneg _) | exact Nat.le_of_ble_eq_true rfl)
  · have hB : ¬ (v.copies[k]!).may.testBit p = false := by assumption
    rw [if_pos (by simpa using hB)] at hYm
    refine acut_melt (envCOk _ _ _) (fun (_ : Unit) => ⟨[(2, .v (.eptr [.int .i64 v.words, .int .i64 v.facts, .slice 1 (v.people.map AV.str), .int .i64 v.last, .slice 4 (v.copies.map vcopyA), .slice 2 (v.rules.map vruleA)])), (7, .v (.int .i64 p)), (8, .v (.int .i64 k)), (9, .v (.int .i64 f)),
        (10, .v (.slice 1 ((listTo w v.words).map (AV.int .i64)))), (11, .loc 11 0)], [], [(11, [.int .i64 v.words, .int .i64 v.facts, .slice 1 (v.people.map AV.str), .int .i64 v.last, .slice 4 ((v.copies.set k Y).map vcopyA), .slice 2 (v.rules.map vruleA)])], m⟩)
      (fun _ => True) (fun _ => b) (fun _ => 4) (fun _ => (v.copies.set k Y).map vcopyA) (fun _ => tail) (fun _ => rfl) ?_ ?_
    · show vcOps _ _ (_ :: _) _ _
      simp (maxSteps := 4000000) only [↓VP0, ↓VP1, ↓VP2, VQ0, VQ1, VQ2, VQ3, VQ4, VT, ite_self, ite_split, Nat.reduceEqDiff, Nat.reduceAdd, Nat.reduceSub, Nat.reduceMul, Nat.reduceLeDiff, Nat.reduceLT, Nat.reduceBEq, Int.reduceLE, Int.reduceLT, Int.reduceNeg, Int.reduceAdd, Int.reduceSub, Int.reduceToNat, ↓reduceIte, reduceCtorEq, ↓hdr]
      repeat' (first | intro _ | refine And.intro ?_ ?_)
      all_goals try (first | omega | (simp only [List.length_map, List.length_cons, List.length_nil, List.length_append, Nat.zero_add]; omega) | exact Int.natCast_nonneg _ | exact Int.le_trans (by decide) (Int.natCast_nonneg _) | exact Nat.le_of_ble_eq_true rfl)
      refine ⟨(), ⟨_, rfl, ?_, ?_⟩, ?_⟩
      · rw [upd_same, cells_map, ← hst]
        simp [overlay, hYm]
      · intro e he
        obtain ⟨q, _, rfl⟩ := List.mem_map.1 he
        exact ⟨rfl, rfl⟩
      · simp only [Fits, fitsV, fitsO, fitsL, St.melt, ↓upd, ↓lookV, ↓lookO, ↓lookL, Nat.reduceEqDiff, ↓reduceIte, ints, and_true, true_and, Option.some.injEq, meltV, meltA, Option.map_some, List.map_cons, List.map_nil]
        exact ⟨by rw [if_pos ⟨by simp, hcap, hcm2⟩], upd_self_none hb _ _⟩
    intro _ _
    simp (maxSteps := 4000000) only [↓VP0, ↓VP1, ↓VP2, VQ0, VQ1, VQ2, VQ3, VQ4, VT, ite_self, ite_split, Nat.reduceEqDiff, Nat.reduceAdd, Nat.reduceSub, Nat.reduceMul, Nat.reduceLeDiff, Nat.reduceLT, Nat.reduceBEq, Int.reduceLE, Int.reduceLT, Int.reduceNeg, Int.reduceAdd, Int.reduceSub, Int.reduceToNat, ↓reduceIte, reduceCtorEq]
    (repeat' (first | intro _ | refine And.intro ?_ ?_ | ((refine ACall.pure (by with_reducible assumption) ?_; try simp (maxSteps := 4000000) only [↓VP0, ↓VP1, ↓VP2, VQ0, VQ1, VQ2, VQ3, VQ4, VT, ite_self, ite_split, Nat.reduceEqDiff, Nat.reduceAdd, Nat.reduceSub, Nat.reduceMul, Nat.reduceLeDiff, Nat.reduceLT, Nat.reduceBEq, Int.reduceLE, Int.reduceLT, Int.reduceNeg, Int.reduceAdd, Int.reduceSub, Int.reduceToNat, ↓reduceIte, reduceCtorEq]); try simp (maxSteps := 4000000) only [↓VP0, ↓VP1, ↓VP2, VQ0, VQ1, VQ2, VQ3, VQ4, VT, ite_self, ite_split, Nat.reduceEqDiff, Nat.reduceAdd, Nat.reduceSub, Nat.reduceMul, Nat.reduceLeDiff, Nat.reduceLT, Nat.reduceBEq, Int.reduceLE, Int.reduceLT, Int.reduceNeg, Int.reduceAdd, Int.reduceSub, Int.reduceToNat, ↓reduceIte, reduceCtorEq, eq_self, decide_true, decide_false, if_true, if_false, not_true_eq_false, List.append_eq]) | (refine VPure.of (by with_reducible assumption) ?_; try simp (maxSteps := 4000000) only [↓VP0, ↓VP1, ↓VP2, VQ0, VQ1, VQ2, VQ3, VQ4, VT, ite_self, ite_split, Nat.reduceEqDiff, Nat.reduceAdd, Nat.reduceSub, Nat.reduceMul, Nat.reduceLeDiff, Nat.reduceLT, Nat.reduceBEq, Int.reduceLE, Int.reduceLT, Int.reduceNeg, Int.reduceAdd, Int.reduceSub, Int.reduceToNat, ↓reduceIte, reduceCtorEq, eq_self, decide_true, decide_false, if_true, if_false, not_true_eq_false, List.append_eq])))
    all_goals try (first | omega | (simp only [List.length_map, List.length_cons, List.length_nil, List.length_append, Nat.zero_add]; omega) | exact Int.natCast_nonneg _ | exact Int.le_trans (by decide) (Int.natCast_nonneg _) | exact Nat.le_of_ble_eq_true rfl)

theorem chestMay_c (c : RChest) (l : List Nat) (hl : l.length = 4) (hb : ∀ x ∈ l, x < 256) (hs : namesFit c) (hpl : c.people.length ≤ 9223372036854775807) :
    PCall Try.prog 16 [chestA c, bytesA l] (.bool true) := by
  match l, hl with
  | [x, y, z, w], _ =>
    by_cases h : (checkR c).2.2 = 0 ∧ 0 < c.people.length
    · obtain ⟨e1, hv⟩ := valid_v h.1
      have hp : 0 < c.v.people.length := h.2
      rw [e1] at hs
      rw [e1, vchestA_raw]
      by_cases h0 : c.v.copies.length = 0
      · exact chestMay_none c.v hv hs hp h0 x y z w
      · exact chestMay_ok c.v hv hs x y z w hp (by omega) (hb x (by simp)) (hb y (by simp)) (hb z (by simp)) (hb w (by simp))
    · exact chestMay_bad c hs hpl x y z w h
end Go.Proofs.Ytakkdmdkelbnjaa.Abs

namespace Go.Proofs.Ytakkdmdkelbnjaa
set_option linter.unusedSimpArgs false
open Go Go.RowKit Go.Proofs Abs
set_option maxRecDepth 100000

theorem chestMay_types : LawTypes Try.prog Try.f16 [26, 62] 4 5 := by
  refine ⟨by rw [Try.params16], by kernel_rfl, Try.underlying4, laid_ok, fun t h => ?_⟩
  simp only [List.mem_cons, List.not_mem_nil, or_false] at h
  rcases h with rfl | rfl
  · exact plain26
  · exact plain62

theorem chestMay_all (xs : List AV) (h : GoodAll Try.prog [26, 62] xs) : ∃ K : AV → Mem → Prop, ACall Try.prog 16 xs (fun _ => .none) K ∧ ∀ r m, K r m → r = .bool true := by
  match xs, h with
  | [a0, a1], ⟨⟨l0, g0, h0⟩, ⟨l1, g1, h1⟩, _⟩ =>
    obtain ⟨c, hc, e0⟩ := open_chest g0
    obtain ⟨y, e1, hyn, hyb⟩ := (fun h => bytes_inv Try.underlying62 h) g1
    rw [h0, e0, h1, e1]
    exact ⟨_, chestMay_c c y hyn hyb hc.names hc.people _, fun r m h => h.1⟩

theorem chestMay_lifted (os : Os) (started : os.Started) (H : Type) (enc : TypeId × Value → H) :
    ReturnsInHanded {} Try.checked os 16 .any (Rows.chestMaySpec.pre6 enc Try.prog Try.f16 Rows.chestMayRow.domain false) (Rows.chestMaySpec.post enc Try.prog Try.f16 false true false false) := by
  refine returnsInHanded_of_change (C := Try.checked) own_ok started (by kernel_rfl) Try.func16
    (ChangeSpec.witness6 (enc := enc) (C := Try.checked) false ⟨#[], #[.agg #[.int .i64 0, .int .i64 0, .slice .none 0 0, .int .i64 0, .slice .none 0 0, .slice .none 0 0], .agg #[.int .u8 0, .int .u8 0, .int .u8 0, .int .u8 0]], []⟩ 8 (by kernel_rfl) (by kernel_rfl) (by kernel_rfl) (by kernel_rfl)) ?_
  intro W base args ds gs before hval hW _ _
  refine law_contract chestMay_types rfl (fun ds hds => ?_) chestMay_all W base args ds gs before hval hW
  match ds, hds with
  | [d0, d1], _ => rfl

theorem chestMay_holds : Rows.ChestMaySaid :=
  OpenClaim.holds_of_wide 16 Try.f16 rfl rfl rfl rfl rfl rfl rfl ⟨rfl, rfl, rfl, rfl, rfl⟩ rfl rfl rfl rfl rfl (by kernel_rfl) Try.func16 (by kernel_rfl)
    (of_decide_eq_true (by kernel_rfl)) (by unfold Func.isWrapper; first | (rw [if_pos (by decide +kernel)]; kernel_rfl) | (rw [if_neg (by decide +kernel)]; exact ⟨rfl, rfl⟩))
    (fun os started H enc _ => chestMay_lifted os started H enc)
end Go.Proofs.Ytakkdmdkelbnjaa
