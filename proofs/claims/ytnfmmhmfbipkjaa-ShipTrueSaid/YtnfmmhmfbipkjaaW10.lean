/- Lemmas for the statements of this seat (W10): they hold without conditions beyond those that each one states. -/
import Derived.Test.YtnfmmhmfbipkjaaW9
import Derived.Test.YtnfmmhmfbipkjaaW2
/- Contracts: Calls. -/
namespace Go.Proofs.Ytnfmmhmfbipkjaa.Abs
set_option linter.unusedSimpArgs false
set_option maxHeartbeats 4000000
set_option maxRecDepth 100000
open Go Go.RowKit Go.Proofs

theorem known_same {h : RHarb} (hh : HOk h) : (knownR h 0).2 = if anyT h 0 = true then 0 else 8 := by
  unfold knownR
  rw [if_neg (by simp), any_zero hh]
  by_cases q : truthsR h [] = []
  · rw [if_pos q]; simp [q]
  · rw [if_neg q]; simp [q]
theorem known_err {h : RHarb} {e : Int} (he : e ≠ 0) : knownR h e = ([], e) := by unfold knownR; rw [if_pos he]
/-- Without an error there is a truth, and the numbers are right. -/
theorem enter_zero {h : RHarb} {many other : Int} {nums : List Int} (e : enterE h many other nums = 0) : (checkH h).2.2 = 0 ∧ (∀ x ∈ nums, 0 ≤ x ∧ x ≤ many - 1) ∧ other = 0 ∧ anyT h 0 = true := by
  unfold enterE at e
  split at e
  · rename_i q; exact absurd e q
  · rename_i q
    split at e
    · cases e
    · rename_i q2
      split at e
      · rename_i q3; exact absurd e q3
      · rename_i q3
        split at e
        · rename_i q4
          refine ⟨by omega, fun x hx => ?_, by omega, q4⟩
          rw [Bool.not_eq_true, List.any_eq_false] at q2
          have := q2 x hx
          rw [Bool.not_eq_true, offP_false] at this
          exact this
        · cases e

theorem known_enter {h : RHarb} {e many other : Int} {nums : List Int} (h1 : (checkH h).2.2 ≠ 0 → e = (checkH h).2.2) (h2 : (checkH h).2.2 = 0 → e = if nums.any (offP 0 (many - 1)) = true then 4 else other) : (knownR h e).2 = enterE h many other nums := by
  unfold enterE
  by_cases q : (checkH h).2.2 = 0
  · have h2 := h2 q
    rw [if_neg (by omega)]
    by_cases q1 : nums.any (offP 0 (many - 1)) = true
    · rw [if_pos q1] at h2 ⊢
      rw [h2, known_err (by decide)]
    · rw [if_neg q1] at h2 ⊢
      subst h2
      by_cases q2 : e = 0
      · subst q2
        rw [if_neg (by simp), known_same (hok_check q)]
      · rw [if_pos q2, known_err q2]
  · rw [if_pos q, h1 q, known_err q]
theorem indexE_bad {c n b : Int} (hc : c ≠ 0) : indexE c n b = c := by unfold indexE; rw [if_neg hc]
theorem indexE_good {n b : Int} : indexE 0 n b = if offP 0 (b - 1) n = true then 4 else 0 := by unfold indexE; rw [if_pos rfl]

def callE2 (h : RHarb) (ship port : Int) : Int := if indexE (checkH h).2.2 ship h.ships.length = 0 then indexE (checkH h).2.2 port h.ports else indexE (checkH h).2.2 ship h.ships.length
theorem callsR_is (h : RHarb) (ship port : Int) : callsR h ship port = if (knownR h (callE2 h ship port)).2 = 0 then ((calledTo h (knownR h (callE2 h ship port)).1 ship.toNat port (knownR h (callE2 h ship port)).1.length).1, settledR (calledTo h (knownR h (callE2 h ship port)).1 ship.toNat port (knownR h (callE2 h ship port)).1.length).2 (knownR h (callE2 h ship port)).1.length, 0) else ((0, 0), 0, (knownR h (callE2 h ship port)).2) := rfl
theorem callE2_known {h : RHarb} {ship port : Int} : (knownR h (callE2 h ship port)).2 = enterE h h.ships.length (if offP 0 (h.ports - 1) port = true then 4 else 0) [ship] := by
  refine known_enter (fun q => ?_) (fun q => ?_)
  · unfold callE2; rw [indexE_bad q, if_neg q]
  · unfold callE2
    rw [q, indexE_good, indexE_good]
    simp only [List.any_cons, List.any_nil, Bool.or_false]
    by_cases q1 : offP 0 ((h.ships.length : Int) - 1) ship = true
    · simp only [if_pos q1]; rfl
    · simp only [if_neg q1, if_true]

theorem callsR_err {h : RHarb} {ship port : Int} : (callsR h ship port).2.2 = enterE h h.ships.length (if offP 0 (h.ports - 1) port = true then 4 else 0) [ship] := by
  rw [← callE2_known, callsR_is]
  split
  · rename_i q; exact q.symm
  · rfl
theorem callsR_bad {h : RHarb} {ship port : Int} (e : (callsR h ship port).2.2 ≠ 0) : callsR h ship port = ((0, 0), 0, (callsR h ship port).2.2) := by
  rw [callsR_is] at e ⊢
  split at e
  · exact absurd rfl e
  · rename_i q; rw [if_neg q]
theorem callsR_good {h : RHarb} {ship port : Int} (e : (callsR h ship port).2.2 = 0) : callsR h ship port = ((calledTo h (truthsR h []) ship.toNat port (truthsR h []).length).1, settledR (calledTo h (truthsR h []) ship.toNat port (truthsR h []).length).2 (truthsR h []).length, 0) := by
  rw [callsR_is] at e ⊢
  split at e
  · rename_i q
    obtain ⟨k1, k2, k3⟩ := known_zero q
    rw [if_pos q, k2]
  · rename_i q; exact absurd e q

theorem calls_top (h : RHarb) (hs : hnamesFit h) (ship port : Int) (hp : -9223372036854775807 ≤ h.ports ∧ h.ports ≤ 9223372036854775807) :
    PCall Try.prog 18 [harbA h, .int .i64 ship, .int .i64 port] (.tuple [.agg [.int .i64 (callsR h ship port).1.1, .int .i64 (callsR h ship port).1.2], .int .i64 (callsR h ship port).2.1, .int .i64 (callsR h ship port).2.2]) := by
  intro m
  refine ACall.forget ?_
  have hoff := off_c 0 (h.ports - 1) [port]
  have hen := fun other m => enter_c h hs h.ships.length other [ship] (fun q => by have := (hok_check q).n; omega) m
  have hE := callsR_err (h := h) (ship := ship) (port := port)
  have hbad := callsR_bad (h := h) (ship := ship) (port := port)
  have hgood := callsR_good (h := h) (ship := ship) (port := port)
  have hhow := how_c
  simp only [List.any_cons, List.any_nil, Bool.or_false] at hoff
  generalize callsR h ship port = R at *
  simp only [harbA, harbL, ints, List.map_cons, List.map_nil] at hoff hen ⊢
  (refine acall_intro (E := envC (modeAt [] [6, 11]) false []) (envCOk _ _ _) rfl Try.func18 rfl Try.call18 (by kernel_rfl) (by simp [Try.ntmps18]) ?_; simp only [Try.f18];  simp (maxSteps := 4000000) only [↓VP, VQ, ite_self, Nat.reduceEqDiff, Nat.reduceAdd, Nat.reduceSub, Nat.reduceMul, Nat.reduceLeDiff, Nat.reduceLT, Nat.reduceBEq, Int.reduceLE, Int.reduceLT, Int.reduceNeg, Int.reduceAdd, Int.reduceSub, Int.reduceToNat, ↓reduceIte, reduceCtorEq, ↓ixShip, ↓ixCall, ↓ixLet, ↓ixRep])
  intro b6 hb6
  repeat' (first | intro _ | refine And.intro ?_ ?_)
  all_goals try omega
  refine ACall.pure hoff ?_
  simp (maxSteps := 4000000) only [↓VP, VQ, ite_self, Nat.reduceEqDiff, Nat.reduceAdd, Nat.reduceSub, Nat.reduceMul, Nat.reduceLeDiff, Nat.reduceLT, Nat.reduceBEq, Int.reduceLE, Int.reduceLT, Int.reduceNeg, Int.reduceAdd, Int.reduceSub, Int.reduceToNat, ↓reduceIte, reduceCtorEq, ↓ixShip, ↓ixCall, ↓ixLet, ↓ixRep]
  repeat' (first | intro _ | refine And.intro ?_ ?_)
  · rw [if_pos (by assumption)] at hE
    refine ACall.told (hen 4 _) ?_
    rintro r m1 ⟨kk, ⟨hz, rfl⟩ | ⟨hz, _⟩⟩
    · rw [← hE] at hz
      have hb := hbad hz
      rw [← hE]
      generalize R.2.2 = e at *
      subst hb
      have j6 := kk b6 _ (fun h => h) (upd_same _ _ _)
      simp (maxSteps := 4000000) only [↓VP, VQ, ite_self, Nat.reduceEqDiff, Nat.reduceAdd, Nat.reduceSub, Nat.reduceMul, Nat.reduceLeDiff, Nat.reduceLT, Nat.reduceBEq, Int.reduceLE, Int.reduceLT, Int.reduceNeg, Int.reduceAdd, Int.reduceSub, Int.reduceToNat, ↓reduceIte, reduceCtorEq, ↓ixShip, ↓ixCall, ↓ixLet, ↓ixRep, hz, j6]
      exact ⟨m, fun b x hx => by rw [if_neg (ne_of_some hx hb6)]; exact kk b x (fun h => h) (by rw [upd_ne _ _ (ne_of_some hx hb6)]; exact hx), rfl⟩
    · exact absurd (enter_zero hz).2.2.1 (by decide)
  · rw [if_neg (by assumption)] at hE
    refine ACall.told (hen 0 _) ?_
    rintro r m1 ⟨kk, ⟨hz, rfl⟩ | ⟨hz, bm, hbm, rfl, hkn⟩⟩
    · rw [← hE] at hz
      have hb := hbad hz
      rw [← hE]
      generalize R.2.2 = e at *
      subst hb
      have j6 := kk b6 _ (fun h => h) (upd_same _ _ _)
      simp (maxSteps := 4000000) only [↓VP, VQ, ite_self, Nat.reduceEqDiff, Nat.reduceAdd, Nat.reduceSub, Nat.reduceMul, Nat.reduceLeDiff, Nat.reduceLT, Nat.reduceBEq, Int.reduceLE, Int.reduceLT, Int.reduceNeg, Int.reduceAdd, Int.reduceSub, Int.reduceToNat, ↓reduceIte, reduceCtorEq, ↓ixShip, ↓ixCall, ↓ixLet, ↓ixRep, hz, j6]
      exact ⟨m, fun b x hx => by rw [if_neg (ne_of_some hx hb6)]; exact kk b x (fun h => h) (by rw [upd_ne _ _ (ne_of_some hx hb6)]; exact hx), rfl⟩
    · obtain ⟨z1, z2, z3, z4⟩ := enter_zero hz
      have hsh := z2 ship (by simp)
      have hh := hok_check z1
      have hsl : ship.toNat < h.ships.length := by omega
      have n6 : bm ≠ b6 := by rintro rfl; rw [upd_same] at hbm; cases hbm
      rw [upd_ne _ _ n6] at hbm
      have j6 := kk b6 _ (fun h => h) (upd_same _ _ _)
      have hcf := callsF_c h hh 0 (by decide) bm ship.toNat port hsl m1 hkn
      rw [Int.toNat_of_nonneg hsh.1] at hcf
      have hR := hgood (by rw [hE]; exact hz)
      simp only [lookedL, Int.natCast_zero] at hcf ⊢
      simp (maxSteps := 4000000) only [↓VP, VQ, ite_self, Nat.reduceEqDiff, Nat.reduceAdd, Nat.reduceSub, Nat.reduceMul, Nat.reduceLeDiff, Nat.reduceLT, Nat.reduceBEq, Int.reduceLE, Int.reduceLT, Int.reduceNeg, Int.reduceAdd, Int.reduceSub, Int.reduceToNat, ↓reduceIte, reduceCtorEq, ↓ixShip, ↓ixCall, ↓ixLet, ↓ixRep]
      repeat' (first | intro _ | refine And.intro ?_ ?_)
      refine ACall.told hcf ?_
      rintro r m2 ⟨k1, k2, L, g, rfl⟩
      obtain ⟨c1, c2, c3, c4, c5⟩ := calls_same hh (given_same hh g) hsl port
      subst hR
      have i6 := k2 b6 _ n6.symm j6
      have hke : ∀ b x, m b = some x → m2 b = some x ∧ b ≠ b6 := fun b x hx => ⟨k2 b x (ne_of_some hx hbm) (kk b x (fun h => h) (by rw [upd_ne _ _ (ne_of_some hx hb6)]; exact hx)), ne_of_some hx hb6⟩
      clear hcf hen hbad hgood
      simp (maxSteps := 4000000) only [↓VP, VQ, ite_self, Nat.reduceEqDiff, Nat.reduceAdd, Nat.reduceSub, Nat.reduceMul, Nat.reduceLeDiff, Nat.reduceLT, Nat.reduceBEq, Int.reduceLE, Int.reduceLT, Int.reduceNeg, Int.reduceAdd, Int.reduceSub, Int.reduceToNat, ↓reduceIte, reduceCtorEq, ↓ixShip, ↓ixCall, ↓ixLet, ↓ixRep]
      intro b11 hb11
      have n11 := ne_of_some i6 hb11
      simp (maxSteps := 4000000) only [↓VP, VQ, ite_self, Nat.reduceEqDiff, Nat.reduceAdd, Nat.reduceSub, Nat.reduceMul, Nat.reduceLeDiff, Nat.reduceLT, Nat.reduceBEq, Int.reduceLE, Int.reduceLT, Int.reduceNeg, Int.reduceAdd, Int.reduceSub, Int.reduceToNat, ↓reduceIte, reduceCtorEq, ↓ixShip, ↓ixCall, ↓ixLet, ↓ixRep, i6, n11, n11.symm]
      have hke2 : ∀ b x, m b = some x → b ≠ b11 := fun b x hx => ne_of_some (hke b x hx).1 hb11
      refine ⟨fun q => ?_, fun q => ?_⟩
      · rw [← c1, c5 q]
        (refine adraw (by first | exact envOk _ | exact envCOk _ _ _) mixed [⟨false, false, 0⟩, ⟨true, false, 10⟩, ⟨true, false, 0⟩, ⟨false, false, 0⟩, ⟨false, false, 0⟩, ⟨false, false, 0⟩] (by kernel_rfl) ?_; show vcOpsD _ _ _ (_ :: _) _ _)
        simp (maxSteps := 4000000) only [↓VP, VQ, ite_self, Nat.reduceEqDiff, Nat.reduceAdd, Nat.reduceSub, Nat.reduceMul, Nat.reduceLeDiff, Nat.reduceLT, Nat.reduceBEq, Int.reduceLE, Int.reduceLT, Int.reduceNeg, Int.reduceAdd, Int.reduceSub, Int.reduceToNat, ↓reduceIte, reduceCtorEq, ↓ixShip, ↓ixCall, ↓ixLet, ↓ixRep, hidM, isLook, maskM, n11, n11.symm]
        refine VPure.of (hhow _ _) ?_
        simp (maxSteps := 4000000) only [↓VP, VQ, ite_self, Nat.reduceEqDiff, Nat.reduceAdd, Nat.reduceSub, Nat.reduceMul, Nat.reduceLeDiff, Nat.reduceLT, Nat.reduceBEq, Int.reduceLE, Int.reduceLT, Int.reduceNeg, Int.reduceAdd, Int.reduceSub, Int.reduceToNat, ↓reduceIte, reduceCtorEq, ↓ixShip, ↓ixCall, ↓ixLet, ↓ixRep, hidM, isLook, maskM, n11, n11.symm]
        refine ⟨m, fun b x hx => ?_, rfl⟩
        obtain ⟨e1, e2⟩ := hke b x hx
        simp only [if_neg e2, if_neg (hke2 b x hx)]
        exact e1
      · rw [← c1, ← c4 q]
        (refine adraw (by first | exact envOk _ | exact envCOk _ _ _) mixed [⟨false, false, 0⟩, ⟨true, false, 10⟩, ⟨true, false, 0⟩, ⟨false, false, 0⟩, ⟨false, false, 0⟩, ⟨false, false, 0⟩] (by kernel_rfl) ?_; show vcOpsD _ _ _ (_ :: _) _ _)
        simp (maxSteps := 4000000) only [↓VP, VQ, ite_self, Nat.reduceEqDiff, Nat.reduceAdd, Nat.reduceSub, Nat.reduceMul, Nat.reduceLeDiff, Nat.reduceLT, Nat.reduceBEq, Int.reduceLE, Int.reduceLT, Int.reduceNeg, Int.reduceAdd, Int.reduceSub, Int.reduceToNat, ↓reduceIte, reduceCtorEq, ↓ixShip, ↓ixCall, ↓ixLet, ↓ixRep, hidM, isLook, maskM, n11, n11.symm]
        refine VPure.of (hhow _ _) ?_
        simp (maxSteps := 4000000) only [↓VP, VQ, ite_self, Nat.reduceEqDiff, Nat.reduceAdd, Nat.reduceSub, Nat.reduceMul, Nat.reduceLeDiff, Nat.reduceLT, Nat.reduceBEq, Int.reduceLE, Int.reduceLT, Int.reduceNeg, Int.reduceAdd, Int.reduceSub, Int.reduceToNat, ↓reduceIte, reduceCtorEq, ↓ixShip, ↓ixCall, ↓ixLet, ↓ixRep, hidM, isLook, maskM, n11, n11.symm]
        refine ⟨m, fun b x hx => ?_, rfl⟩
        obtain ⟨e1, e2⟩ := hke b x hx
        simp only [if_neg e2, if_neg (hke2 b x hx)]
        exact e1
end Go.Proofs.Ytnfmmhmfbipkjaa.Abs

/- Laws and contracts: Sunk. -/
namespace Go.Proofs.Ytnfmmhmfbipkjaa.Abs
set_option linter.unusedSimpArgs false
set_option maxHeartbeats 4000000
set_option maxRecDepth 100000
open Go Go.RowKit Go.Proofs

/-- Ships that sink in all, and in some, of some fleets. -/
def allS (h : RHarb) (L : List (List Fate)) (i : Nat) : Bool := L.all fun x => sinksB h (fun k => x[k]!) i
def someS (h : RHarb) (L : List (List Fate)) (i : Nat) : Bool := L.any fun x => sinksB h (fun k => x[k]!) i

theorem setOf_and (f g : Nat → Bool) (n : Nat) : setOf f n &&& setOf g n = setOf (fun i => f i && g i) n := by
  refine Nat.eq_of_testBit_eq fun i => ?_
  rw [Nat.testBit_and, setOf_bit, setOf_bit, setOf_bit]
  cases decide (i < n) <;> simp
theorem setOf_or (f g : Nat → Bool) (n : Nat) : setOf f n ||| setOf g n = setOf (fun i => f i || g i) n := by
  refine Nat.eq_of_testBit_eq fun i => ?_
  rw [Nat.testBit_or, setOf_bit, setOf_bit, setOf_bit]
  cases decide (i < n) <;> simp
theorem setOf_true (n : Nat) : setOf (fun _ => true) n = 2 ^ n - 1 := by
  refine Nat.eq_of_testBit_eq fun i => ?_
  rw [setOf_bit, Nat.testBit_two_pow_sub_one]; simp
theorem setOf_false (n : Nat) : setOf (fun _ => false) n = 0 := by
  refine Nat.eq_of_testBit_eq fun i => ?_
  rw [setOf_bit]; simp
theorem allS_snoc (h : RHarb) (L : List (List Fate)) (x : List Fate) (n : Nat) : setOf (allS h (L ++ [x])) n = setOf (allS h L) n &&& lostS h (fun k => x[k]!) n := by
  unfold lostS
  rw [setOf_and]
  refine setOf_ext fun i _ => ?_
  simp [allS]
theorem someS_snoc (h : RHarb) (L : List (List Fate)) (x : List Fate) (n : Nat) : setOf (someS h (L ++ [x])) n = setOf (someS h L) n ||| lostS h (fun k => x[k]!) n := by
  unfold lostS
  rw [setOf_or]
  refine setOf_ext fun i _ => ?_
  simp [someS]

theorem mem_lostL {h : RHarb} {l : List Fate} {n s : Nat} : (s : Int) ∈ lostL h l n ↔ s < n ∧ sinksB h (fun k => l[k]!) s = true := by
  unfold lostL sinksB
  simp only [List.mem_map, List.mem_filter, List.mem_range]
  constructor
  · rintro ⟨j, ⟨h1, h2⟩, h3⟩
    have : j = s := by omega
    subst this; exact ⟨h1, h2⟩
  · rintro ⟨h1, h2⟩; exact ⟨s, ⟨h1, h2⟩, rfl⟩

theorem sinkN_is (h : RHarb) (l : List RTru) (s : Nat) : ∀ n, (sinkN h l s n = (n : Int) ↔ ∀ i, i < n → (s : Int) ∈ lostL h (l[i]!).fleet (l[i]!).fleet.length) ∧ (0 < sinkN h l s n ↔ ∃ i, i < n ∧ (s : Int) ∈ lostL h (l[i]!).fleet (l[i]!).fleet.length)
  | 0 => by simp [sinkN]
  | n + 1 => by
    obtain ⟨h1, h2⟩ := sinkN_is h l s n
    have hle := sinkN_le h l s n
    unfold sinkN
    by_cases q : (s : Int) ∈ lostL h (l[n]!).fleet (l[n]!).fleet.length
    · rw [if_pos q]
      refine ⟨⟨fun e i hi => ?_, fun e => ?_⟩, ⟨fun _ => ⟨n, by omega, q⟩, fun _ => by omega⟩⟩
      · by_cases e2 : i = n
        · subst e2; exact q
        · exact h1.1 (by omega) i (by omega)
      · have := h1.2 fun i hi => e i (by omega)
        omega
    · rw [if_neg q]
      refine ⟨⟨fun e => by omega, fun e => absurd (e n (by omega)) q⟩, ⟨fun e => ?_, ?_⟩⟩
      · obtain ⟨i, hi, hp⟩ := h2.1 (by omega)
        exact ⟨i, by omega, hp⟩
      · rintro ⟨i, hi, hp⟩
        have : i ≠ n := by rintro rfl; exact q hp
        have := h2.2 ⟨i, by omega, hp⟩
        omega

theorem same_all {h : RHarb} {L : List (List Fate)} (g : Same h L) (P : RTru → Prop) : (∀ i, i < (truthsR h []).length → P ((truthsR h [])[i]!)) ↔ ∀ x ∈ L, P (truOf h [] x) := by
  constructor
  · intro q x hx
    obtain ⟨i, hi, e⟩ := List.getElem_of_mem (g.b x hx)
    have := q i hi
    rw [getD_any hi, e] at this
    exact this
  · intro q i hi
    obtain ⟨x, hx, e⟩ := g.a _ (at_mem hi)
    rw [e]; exact q x hx
theorem same_ex {h : RHarb} {L : List (List Fate)} (g : Same h L) (P : RTru → Prop) : (∃ i, i < (truthsR h []).length ∧ P ((truthsR h [])[i]!)) ↔ ∃ x ∈ L, P (truOf h [] x) := by
  constructor
  · rintro ⟨i, hi, hp⟩
    obtain ⟨x, hx, e⟩ := g.a _ (at_mem hi)
    rw [e] at hp; exact ⟨x, hx, hp⟩
  · rintro ⟨x, hx, hp⟩
    obtain ⟨i, hi, e⟩ := List.getElem_of_mem (g.b x hx)
    exact ⟨i, hi, by rw [getD_any hi, e]; exact hp⟩

theorem sunk_same {h : RHarb} {L : List (List Fate)} (g : Same h L) : listTo (setOf (allS h L) h.ships.length) h.ships.length = sureTo h (truthsR h []) h.ships.length ∧ listTo (setOf (someS h L) h.ships.length) h.ships.length = mayTo h (truthsR h []) h.ships.length := by
  have hlen : ∀ x ∈ L, (truOf h [] x).fleet.length = h.ships.length := fun x hx => (g.fok x hx).n
  constructor
  · unfold listTo sureTo
    congr 1
    refine List.filter_congr fun s hs => ?_
    have hs' := List.mem_range.1 hs
    rw [setOf_bit, decide_eq_true hs', Bool.true_and, Bool.eq_iff_iff, decide_eq_true_eq, (sinkN_is h _ s _).1, same_all g (fun t => (s : Int) ∈ lostL h t.fleet t.fleet.length)]
    unfold allS
    rw [List.all_eq_true]
    constructor
    · intro q x hx; rw [mem_lostL, hlen x hx]; exact ⟨hs', q x hx⟩
    · intro q x hx; exact (mem_lostL.1 (q x hx)).2
  · unfold listTo mayTo
    congr 1
    refine List.filter_congr fun s hs => ?_
    have hs' := List.mem_range.1 hs
    rw [setOf_bit, decide_eq_true hs', Bool.true_and, Bool.eq_iff_iff, decide_eq_true_eq, (sinkN_is h _ s _).2, same_ex g (fun t => (s : Int) ∈ lostL h t.fleet t.fleet.length)]
    unfold someS
    rw [List.any_eq_true]
    constructor
    · rintro ⟨x, hx, q⟩; exact ⟨x, hx, by rw [mem_lostL, hlen x hx]; exact ⟨hs', q⟩⟩
    · rintro ⟨x, hx, q⟩; exact ⟨x, hx, (mem_lostL.1 q).2⟩

theorem sunkR_err {h : RHarb} : (sunkR h).2.2 = enterE h 0 0 [] := by
  have : (knownR h (checkH h).2.2).2 = enterE h 0 0 [] := known_enter (fun _ => rfl) (fun q => by rw [q]; simp)
  rw [← this]
  unfold sunkR
  split
  · rename_i q; exact q.symm
  · rfl
theorem sunkR_bad {h : RHarb} (e : (sunkR h).2.2 ≠ 0) : sunkR h = ([], [], (sunkR h).2.2) := by
  unfold sunkR at e ⊢
  split at e
  · exact absurd rfl e
  · rename_i q; rw [if_neg q]
theorem sunkR_good {h : RHarb} (e : (sunkR h).2.2 = 0) : sunkR h = (sureTo h (truthsR h []) h.ships.length, mayTo h (truthsR h []) h.ships.length, 0) := by
  unfold sunkR at e ⊢
  split at e
  · rename_i q
    obtain ⟨k1, k2, k3⟩ := known_zero q
    rw [if_pos q, k2]
  · rename_i q; exact absurd e q

theorem sunk_top (h : RHarb) (hs : hnamesFit h) : PCall Try.prog 20 [harbA h] (.tuple [ints (sunkR h).1, ints (sunkR h).2.1, .int .i64 (sunkR h).2.2]) := by
  intro m
  refine ACall.forget ?_
  have hen := fun m => enter_c h hs 0 0 [] (fun q => by omega) m
  have hE := sunkR_err (h := h)
  have hbad := sunkR_bad (h := h)
  have hgood := sunkR_good (h := h)
  generalize sunkR h = R at *
  simp only [harbA, harbL, ints, List.map_nil] at hen ⊢
  (refine acall_intro (E := envC (modeAt [8] [5, 6, 7]) false []) (envCOk _ _ _) rfl Try.func20 rfl Try.call20 (by kernel_rfl) (by simp [Try.ntmps20]) ?_; simp only [Try.f20];  simp (maxSteps := 4000000) only [↓VP, VQ, ite_self, Nat.reduceEqDiff, Nat.reduceAdd, Nat.reduceSub, Nat.reduceMul, Nat.reduceLeDiff, Nat.reduceLT, Nat.reduceBEq, Int.reduceLE, Int.reduceLT, Int.reduceNeg, Int.reduceAdd, Int.reduceSub, Int.reduceToNat, ↓reduceIte, reduceCtorEq, ↓ixShip, ↓ixCall, ↓ixLet, ↓ixRep])
  refine ACall.told (hen _) ?_
  rintro r m1 ⟨kk, ⟨hz, rfl⟩ | ⟨hz, bm, hbm, rfl, hkn⟩⟩
  · rw [← hE] at hz
    have hb := hbad hz
    rw [← hE]
    generalize R.2.2 = e at *
    subst hb
    simp (maxSteps := 4000000) only [↓VP, VQ, ite_self, Nat.reduceEqDiff, Nat.reduceAdd, Nat.reduceSub, Nat.reduceMul, Nat.reduceLeDiff, Nat.reduceLT, Nat.reduceBEq, Int.reduceLE, Int.reduceLT, Int.reduceNeg, Int.reduceAdd, Int.reduceSub, Int.reduceToNat, ↓reduceIte, reduceCtorEq, ↓ixShip, ↓ixCall, ↓ixLet, ↓ixRep]
    intro b5 hb5
    simp (maxSteps := 4000000) only [↓VP, VQ, ite_self, Nat.reduceEqDiff, Nat.reduceAdd, Nat.reduceSub, Nat.reduceMul, Nat.reduceLeDiff, Nat.reduceLT, Nat.reduceBEq, Int.reduceLE, Int.reduceLT, Int.reduceNeg, Int.reduceAdd, Int.reduceSub, Int.reduceToNat, ↓reduceIte, reduceCtorEq, ↓ixShip, ↓ixCall, ↓ixLet, ↓ixRep, hz]
    exact ⟨m, fun b x hx => by rw [if_neg (ne_of_some (kk b x (fun h => h) hx) hb5), if_neg (ne_of_some (kk b x (fun h => h) hx) hb5)]; exact kk b x (fun h => h) hx, rfl⟩
  · obtain ⟨z1, z2, z3, z4⟩ := enter_zero hz
    have hh := hok_check z1
    have h3 := hh.n
    have hR := hgood (by rw [hE]; exact hz)
    have htr := truthsF_c h 0 bm
    have hbn : ∃ y, m1 bm = some y := by obtain ⟨ls, k1, k2⟩ := hkn; exact ⟨_, k2⟩
    obtain ⟨yb, hbn⟩ := hbn
    have ht1 := fun (l : Nat) (S : Nat → Prop) (J : List (List Fate) → Mem → Prop) (F : Mem → Prop) (hy : YTok h 0 bm l S J F) (m : Mem) => truths1_c h hh 0 (by decide) bm hy m
    have hlost := fun (x : List Fate) => lost_c h hh 0 bm (fun k => x[k]!)
    have hlist := fun s (q : s < 2 ^ 62) => list_c s h.ships.length q (by omega)
    have hp : (2 : Nat) ^ h.ships.length ≤ 2 ^ 3 := Nat.pow_le_pow_right (by decide) h3
    have hp1 : (1 : Nat) ≤ 2 ^ h.ships.length := Nat.one_le_two_pow
    simp only [lookedL, fleetA, Int.natCast_zero, ints] at htr hlost hlist ⊢
    subst hR
    clear hen hbad hgood
    simp (maxSteps := 4000000) only [↓VP, VQ, ite_self, Nat.reduceEqDiff, Nat.reduceAdd, Nat.reduceSub, Nat.reduceMul, Nat.reduceLeDiff, Nat.reduceLT, Nat.reduceBEq, Int.reduceLE, Int.reduceLT, Int.reduceNeg, Int.reduceAdd, Int.reduceSub, Int.reduceToNat, ↓reduceIte, reduceCtorEq, ↓ixShip, ↓ixCall, ↓ixLet, ↓ixRep]
    intro b5 hb5
    repeat' (first | intro _ | refine And.intro ?_ ?_)
    all_goals try omega
    rename_i b6 hb6 b7 hb7
    have n65 : b6 ≠ b5 := by rintro rfl; simp at hb6
    have hb6' : m1 b6 = none := by simpa [n65] using hb6
    have n76 : b7 ≠ b6 := by rintro rfl; simp at hb7
    have n75 : b7 ≠ b5 := by rintro rfl; simp [n76] at hb7
    have hb7' : m1 b7 = none := by simpa [n76, n75] using hb7
    have n5 := ne_of_some hbn hb5
    have n6 := ne_of_some hbn hb6'
    have n7 := ne_of_some hbn hb7'
    simp (maxSteps := 4000000) only [↓VP, VQ, ite_self, Nat.reduceEqDiff, Nat.reduceAdd, Nat.reduceSub, Nat.reduceMul, Nat.reduceLeDiff, Nat.reduceLT, Nat.reduceBEq, Int.reduceLE, Int.reduceLT, Int.reduceNeg, Int.reduceAdd, Int.reduceSub, Int.reduceToNat, ↓reduceIte, reduceCtorEq, ↓ixShip, ↓ixCall, ↓ixLet, ↓ixRep, n65, n76, n75, n65.symm, n76.symm, n75.symm]
    repeat' (first | intro _ | refine And.intro ?_ ?_)
    refine ACall.pure htr ?_
    simp (maxSteps := 4000000) only [↓VP, VQ, ite_self, Nat.reduceEqDiff, Nat.reduceAdd, Nat.reduceSub, Nat.reduceMul, Nat.reduceLeDiff, Nat.reduceLT, Nat.reduceBEq, Int.reduceLE, Int.reduceLT, Int.reduceNeg, Int.reduceAdd, Int.reduceSub, Int.reduceToNat, ↓reduceIte, reduceCtorEq, ↓ixShip, ↓ixCall, ↓ixLet, ↓ixRep]
    refine arange rfl (f := 133) (first := []) (caps := [.eptr [.eptr (lookedL h 0 bm)]]) (by simp (maxSteps := 4000000) only [↓VP, VQ, ite_self, Nat.reduceEqDiff, Nat.reduceAdd, Nat.reduceSub, Nat.reduceMul, Nat.reduceLeDiff, Nat.reduceLT, Nat.reduceBEq, Int.reduceLE, Int.reduceLT, Int.reduceNeg, Int.reduceAdd, Int.reduceSub, Int.reduceToNat, ↓reduceIte, reduceCtorEq, ↓ixShip, ↓ixCall, ↓ixLet, ↓ixRep, lookedL, Int.natCast_zero]) ?_
    intro l hl
    have hl7 : l ≠ b7 := by rintro rfl; simp [upd, n76, n75] at hl
    have hl6 : l ≠ b6 := by rintro rfl; simp [upd, n65, n76.symm] at hl
    have hl5 : l ≠ b5 := by rintro rfl; simp [upd, n65.symm, n75.symm] at hl
    have hl0 : m1 l = none := by simpa [upd, hl7, hl6, hl5] using hl
    have nl := ne_of_some hbn hl0
    generalize hR : LoopA.mk _ _ _ _ _ = R
    have hyok : YTok h 0 bm l (fun k => k = l ∨ k = b5 ∨ k = b6 ∨ k = b7) (fun pre m2 => m2 l = some (.loop .ready none R) ∧ m2 b5 = some (.cells [.eptr (lookedL h 0 bm)]) ∧ m2 b6 = some (.cells [.int .i64 (setOf (allS h pre) h.ships.length : Nat)]) ∧
        m2 b7 = some (.cells [.int .i64 (setOf (someS h pre) h.ships.length : Nat)])) (fun _ => False) := by
      refine ⟨fun pre x m2 hn hx hin ok hk hJ => ?_, fun pre m2 m3 hJ hs => ?_⟩
      · obtain ⟨j3, j5, j6, j7⟩ := hJ
        subst hR
        refine ayield (E := envC (modeAt [8] [5, 6, 7]) true []) (envCOk _ _ _) rfl j3 rfl (by rfl) (by rfl) (by rfl) ?_
        have hfl := fleetL_length fun i => x[i]!
        have hff := fleetL_flat fun i => x[i]!
        have hft := fleetL_take fun i => x[i]!
        have ha1 := allS_snoc h pre x h.ships.length
        have ha2 := someS_snoc h pre x h.ships.length
        have hv1 := setOf_lt (allS h pre) h.ships.length
        have hv2 := setOf_lt (someS h pre) h.ships.length
        have hv3 : lostS h (fun k => x[k]!) h.ships.length < 2 ^ h.ships.length := setOf_lt _ _
        have hl1 := hlost x
        simp only [lookedL, Int.natCast_zero] at j5
        generalize lostS h (fun k => x[k]!) h.ships.length = V at *
        generalize setOf (allS h pre) h.ships.length = A at *
        generalize setOf (someS h pre) h.ships.length = B at *
        simp (maxSteps := 4000000) only [↓VP, VQ, ite_self, Nat.reduceEqDiff, Nat.reduceAdd, Nat.reduceSub, Nat.reduceMul, Nat.reduceLeDiff, Nat.reduceLT, Nat.reduceBEq, Int.reduceLE, Int.reduceLT, Int.reduceNeg, Int.reduceAdd, Int.reduceSub, Int.reduceToNat, ↓reduceIte, reduceCtorEq, ↓ixShip, ↓ixCall, ↓ixLet, ↓ixRep, j3, j5, keyA, fleetA, hfl, hff, hft, hl5, hl5.symm, hl6, hl6.symm, hl7, hl7.symm]
        repeat' (first | intro _ | refine And.intro ?_ ?_)
        refine ACall.pure hl1 ?_
        simp (maxSteps := 4000000) only [↓VP, VQ, ite_self, Nat.reduceEqDiff, Nat.reduceAdd, Nat.reduceSub, Nat.reduceMul, Nat.reduceLeDiff, Nat.reduceLT, Nat.reduceBEq, Int.reduceLE, Int.reduceLT, Int.reduceNeg, Int.reduceAdd, Int.reduceSub, Int.reduceToNat, ↓reduceIte, reduceCtorEq, ↓ixShip, ↓ixCall, ↓ixLet, ↓ixRep, j3, j5, j6, j7, hfl, hff, hft, hl5, hl5.symm, hl6, hl6.symm, hl7, hl7.symm, n65, n65.symm, n75, n75.symm, n76, n76.symm]
        repeat' (first | intro _ | refine And.intro ?_ ?_)
        all_goals try omega
        · exact ⟨fun k y hq hy => by simp only [not_or] at hq; simp only [upd, if_neg hq.1, if_neg hq.2.1, if_neg hq.2.2.1, if_neg hq.2.2.2]; exact hy⟩
        · rw [ha1, ha2]
          simp only [lookedL, Int.natCast_zero]
          exact .inl ⟨trivial, trivial, trivial⟩
      · obtain ⟨j3, j5, j6, j7⟩ := hJ
        exact ⟨by rw [hs l (.inl rfl)]; exact j3, by rw [hs b5 (.inr (.inl rfl))]; exact j5, by rw [hs b6 (.inr (.inr (.inl rfl)))]; exact j6, by rw [hs b7 (.inr (.inr (.inr rfl)))]; exact j7⟩
    have hdom : ∀ k y, m1 k = some y → k ≠ l ∧ k ≠ b5 ∧ k ≠ b6 ∧ k ≠ b7 := fun k y hy => ⟨ne_of_some hy hl0, ne_of_some hy hb5, ne_of_some hy hb6', ne_of_some hy hb7'⟩
    refine ACall.mono (ht1 l _ _ _ hyok _ ?_ ?_ ?_ ?_) ?_ <;> (try dsimp only)
    · obtain ⟨ls, k1, k2⟩ := hkn
      exact ⟨ls, k1, by simp [upd, nl, n5, n6, n7]; exact k2⟩
    · rintro k (rfl | rfl | rfl | rfl)
      · simp [upd]
      · simp [upd, hl5.symm, n65.symm, n75.symm]
      · simp [upd, hl6.symm, n76.symm]
      · simp [upd, hl7.symm, n76]
    · rintro (e | e | e | e)
      · exact nl e
      · exact n5 e
      · exact n6 e
      · exact n7 e
    · refine ⟨upd_same _ _ _, by simp [upd, hl5.symm, n65.symm, n75.symm, lookedL], ?_, ?_⟩
      · rw [show allS h [] = fun _ => true from rfl, setOf_true]
        rw [show ((2 ^ h.ships.length - 1 : Nat) : Int) = ((2 ^ h.ships.length : Nat) : Int) - 1 by omega]
        simp only [upd, hl6.symm, n76.symm, n65.symm, ↓reduceIte]
      · rw [show someS h [] = fun _ => false from rfl, setOf_false]
        simp [upd, hl7.symm, n76]
    · rintro r m' ⟨k1, k2, k3⟩
      have kk2 : ∀ k y, m k = some y → m' k = some y ∧ k ≠ l := by
        intro k y hy
        have hy1 := kk k y (fun h => h) hy
        obtain ⟨a1, a2, a3, a4⟩ := hdom k y hy1
        have a5 : k ≠ bm := ne_of_some hy hbm
        exact ⟨k1 k y (by rintro ((e | e | e | e) | e); exact a1 e; exact a2 e; exact a3 e; exact a4 e; exact a5 e) (by simp [upd, a1, a2, a3, a4]; exact hy1), a1⟩
      clear ht1 hyok
      rcases k3 with ⟨L, ⟨j3, j5, j6, j7⟩, g⟩ | hF
      · obtain ⟨s1, s2⟩ := sunk_same (given_same hh g)
        have hv1 := setOf_lt (allS h L) h.ships.length
        have hv2 := setOf_lt (someS h L) h.ships.length
        have hl1 := hlist (setOf (allS h L) h.ships.length) (by omega)
        have hl2 := hlist (setOf (someS h L) h.ships.length) (by omega)
        rw [s1] at hl1
        rw [s2] at hl2
        simp (maxSteps := 4000000) only [↓VP, VQ, ite_self, Nat.reduceEqDiff, Nat.reduceAdd, Nat.reduceSub, Nat.reduceMul, Nat.reduceLeDiff, Nat.reduceLT, Nat.reduceBEq, Int.reduceLE, Int.reduceLT, Int.reduceNeg, Int.reduceAdd, Int.reduceSub, Int.reduceToNat, ↓reduceIte, reduceCtorEq, ↓ixShip, ↓ixCall, ↓ixLet, ↓ixRep, j3, j6, j7, hl6, hl6.symm, hl7, hl7.symm]
        (refine adraw (by first | exact envOk _ | exact envCOk _ _ _) mixed [⟨false, false, 0⟩, ⟨false, false, 0⟩, ⟨false, false, 0⟩, ⟨false, false, 0⟩, ⟨false, false, 0⟩, ⟨false, false, 0⟩, ⟨false, false, 0⟩, ⟨false, false, 0⟩, ⟨false, false, 0⟩, ⟨false, false, 0⟩, ⟨false, false, 0⟩, ⟨false, false, 0⟩, ⟨false, false, 0⟩] (by kernel_rfl) ?_; show vcOpsD _ _ _ (_ :: _) _ _)
        simp (maxSteps := 4000000) only [↓VP, VQ, ite_self, Nat.reduceEqDiff, Nat.reduceAdd, Nat.reduceSub, Nat.reduceMul, Nat.reduceLeDiff, Nat.reduceLT, Nat.reduceBEq, Int.reduceLE, Int.reduceLT, Int.reduceNeg, Int.reduceAdd, Int.reduceSub, Int.reduceToNat, ↓reduceIte, reduceCtorEq, ↓ixShip, ↓ixCall, ↓ixLet, ↓ixRep, j6, j7, hl6, hl6.symm, hl7, hl7.symm]
        repeat' (first | intro _ | refine And.intro ?_ ?_)
        refine VPure.of hl1 ?_
        simp (maxSteps := 4000000) only [↓VP, VQ, ite_self, Nat.reduceEqDiff, Nat.reduceAdd, Nat.reduceSub, Nat.reduceMul, Nat.reduceLeDiff, Nat.reduceLT, Nat.reduceBEq, Int.reduceLE, Int.reduceLT, Int.reduceNeg, Int.reduceAdd, Int.reduceSub, Int.reduceToNat, ↓reduceIte, reduceCtorEq, ↓ixShip, ↓ixCall, ↓ixLet, ↓ixRep, j6, j7, hl6, hl6.symm, hl7, hl7.symm]
        repeat' (first | intro _ | refine And.intro ?_ ?_)
        refine VPure.of hl2 ?_
        simp (maxSteps := 4000000) only [↓VP, VQ, ite_self, Nat.reduceEqDiff, Nat.reduceAdd, Nat.reduceSub, Nat.reduceMul, Nat.reduceLeDiff, Nat.reduceLT, Nat.reduceBEq, Int.reduceLE, Int.reduceLT, Int.reduceNeg, Int.reduceAdd, Int.reduceSub, Int.reduceToNat, ↓reduceIte, reduceCtorEq, ↓ixShip, ↓ixCall, ↓ixLet, ↓ixRep, j6, j7, hl6, hl6.symm, hl7, hl7.symm]
        refine ⟨m, fun k y hy => ?_, rfl⟩
        obtain ⟨e1, e2⟩ := kk2 k y hy
        simp only [if_neg e2]
        exact e1
      · exact hF.elim
end Go.Proofs.Ytnfmmhmfbipkjaa.Abs

/- Laws and contracts: By. -/
namespace Go.Proofs.Ytnfmmhmfbipkjaa.Abs
set_option linter.unusedSimpArgs false
set_option maxHeartbeats 4000000
set_option maxRecDepth 100000
open Go Go.RowKit Go.Proofs

theorem nL_flat (f : Nat → Int) (n : Nat) : (nL f n).all flat = true := by
  unfold nL
  rw [List.all_map, List.all_eq_true]
  intro x _; rfl

/-- The ships by which a letter can have gone. -/
def goS (h : RHarb) (k : Nat) (L : List (List Fate)) (s : Nat) : Bool := L.any fun x => loadB h (fun i => x[i]!) k 0 h.reports.length s
theorem goS_snoc (h : RHarb) (k : Nat) (L : List (List Fate)) (x : List Fate) (n : Nat) : setOf (goS h k (L ++ [x])) n = setOf (goS h k L) n ||| setOf (loadB h (fun i => x[i]!) k 0 h.reports.length) n := by
  rw [setOf_or]
  refine setOf_ext fun i _ => ?_
  simp [goS]

theorem load_at {h : RHarb} {x : List Fate} {k : Nat} (hk : k < h.letters.length) : loadK h 0 x h.reports.length k = ((setOf (loadB h (fun i => x[i]!) k 0 h.reports.length) h.ships.length : Nat) : Int) := by
  unfold loadK loadS
  rw [if_pos hk]

theorem true_by {h : RHarb} (hh : HOk h) {x : List Fate} (hx : FOk h x) {k : Nat} (hk : k < h.letters.length) : (truOf h [] x).by_[k]! = listTo (loadS h (fun i => x[i]!) 0 h.reports.length k) h.ships.length := by
  rw [load_list hh hx 0 k, listTo_zero]
  exact byTo_at h x [] hk

theorem metB_is (l : List RTru) (k s n : Nat) : metB l k s n = true ↔ ∃ i, i < n ∧ (s : Int) ∈ (l[i]!).by_[k]! := by
  unfold metB
  rw [List.any_eq_true]
  constructor
  · rintro ⟨i, hi, hp⟩; exact ⟨i, List.mem_range.1 hi, by simpa using hp⟩
  · rintro ⟨i, hi, hp⟩; exact ⟨i, List.mem_range.2 hi, by simpa using hp⟩

theorem by_same {h : RHarb} (hh : HOk h) {L : List (List Fate)} (g : Same h L) {k : Nat} (hk : k < h.letters.length) : listTo (setOf (goS h k L) h.ships.length) h.ships.length = metL (truthsR h []) k h.ships.length := by
  unfold listTo metL
  congr 1
  refine List.filter_congr fun s hs => ?_
  have hs' := List.mem_range.1 hs
  rw [setOf_bit, decide_eq_true hs', Bool.true_and, Bool.eq_iff_iff, metB_is, same_ex g (fun t => (s : Int) ∈ t.by_[k]!)]
  unfold goS
  rw [List.any_eq_true]
  constructor
  · rintro ⟨x, hx, q⟩
    refine ⟨x, hx, ?_⟩
    rw [true_by hh (g.fok x hx) hk, mem_listTo hs']
    unfold loadS
    rw [setOf_bit, q, decide_eq_true hs']; rfl
  · rintro ⟨x, hx, q⟩
    refine ⟨x, hx, ?_⟩
    rw [true_by hh (g.fok x hx) hk, mem_listTo hs'] at q
    unfold loadS at q
    rw [setOf_bit, decide_eq_true hs', Bool.true_and] at q
    exact q

theorem byR_err {h : RHarb} {letter : Int} : (byR h letter).2 = enterE h h.letters.length 0 [letter] := by
  have : (knownR h (indexE (checkH h).2.2 letter h.letters.length)).2 = enterE h h.letters.length 0 [letter] := known_enter (fun q => indexE_bad q) (fun q => by rw [q, indexE_good]; simp)
  rw [← this]
  unfold byR
  split
  · rename_i q; exact q.symm
  · rfl
theorem byR_bad {h : RHarb} {letter : Int} (e : (byR h letter).2 ≠ 0) : byR h letter = ([], (byR h letter).2) := by
  unfold byR at e ⊢
  split at e
  · exact absurd rfl e
  · rename_i q; rw [if_neg q]
theorem byR_good {h : RHarb} {letter : Int} (e : (byR h letter).2 = 0) : byR h letter = (metL (truthsR h []) letter.toNat h.ships.length, 0) := by
  unfold byR at e ⊢
  split at e
  · rename_i q
    obtain ⟨k1, k2, k3⟩ := known_zero q
    rw [if_pos q, k2]
  · rename_i q; exact absurd e q

theorem by_top (h : RHarb) (hs : hnamesFit h) (letter : Int) : PCall Try.prog 26 [harbA h, .int .i64 letter] (.tuple [ints (byR h letter).1, .int .i64 (byR h letter).2]) := by
  intro m
  refine ACall.forget ?_
  have hen := fun m => enter_c h hs h.letters.length 0 [letter] (fun q => by have := (hok_check q).nl; omega) m
  have hE := byR_err (h := h) (letter := letter)
  have hbad := byR_bad (h := h) (letter := letter)
  have hgood := byR_good (h := h) (letter := letter)
  generalize byR h letter = R at *
  simp only [harbA, harbL, ints, List.map_nil, List.map_cons] at hen ⊢
  (refine acall_intro (E := envC (modeAt [10] [8]) false []) (envCOk _ _ _) rfl Try.func26 rfl Try.call26 (by kernel_rfl) (by simp [Try.ntmps26]) ?_; simp only [Try.f26];  simp (maxSteps := 4000000) only [↓VP, VQ, ite_self, Nat.reduceEqDiff, Nat.reduceAdd, Nat.reduceSub, Nat.reduceMul, Nat.reduceLeDiff, Nat.reduceLT, Nat.reduceBEq, Int.reduceLE, Int.reduceLT, Int.reduceNeg, Int.reduceAdd, Int.reduceSub, Int.reduceToNat, ↓reduceIte, reduceCtorEq, ↓ixShip, ↓ixCall, ↓ixLet, ↓ixRep])
  repeat' (first | intro _ | refine And.intro ?_ ?_)
  refine ACall.told (hen _) ?_
  rintro r m1 ⟨kk, ⟨hz, rfl⟩ | ⟨hz, bm, hbm, rfl, hkn⟩⟩
  · rw [← hE] at hz
    have hb := hbad hz
    rw [← hE]
    generalize R.2 = e at *
    subst hb
    simp (maxSteps := 4000000) only [↓VP, VQ, ite_self, Nat.reduceEqDiff, Nat.reduceAdd, Nat.reduceSub, Nat.reduceMul, Nat.reduceLeDiff, Nat.reduceLT, Nat.reduceBEq, Int.reduceLE, Int.reduceLT, Int.reduceNeg, Int.reduceAdd, Int.reduceSub, Int.reduceToNat, ↓reduceIte, reduceCtorEq, ↓ixShip, ↓ixCall, ↓ixLet, ↓ixRep, hz]
    exact ⟨m, fun b x hx => kk b x (fun h => h) hx, rfl⟩
  · obtain ⟨z1, z2, z3, z4⟩ := enter_zero hz
    have hle := z2 letter (by simp)
    have hh := hok_check z1
    have h3 := hh.n
    have h4 := hh.nl
    have hR := hgood (by rw [hE]; exact hz)
    have hkl : letter.toNat < h.letters.length := by omega
    have hlk : letter = ((letter.toNat : Nat) : Int) := by omega
    generalize letter.toNat = k at *
    subst hlk
    have htr := truthsF_c h 0 bm
    have hbn : ∃ y, m1 bm = some y := by obtain ⟨ls, k1, k2⟩ := hkn; exact ⟨_, k2⟩
    obtain ⟨yb, hbn⟩ := hbn
    have ht1 := fun (l : Nat) (S : Nat → Prop) (J : List (List Fate) → Mem → Prop) (F : Mem → Prop) (hy : YTok h 0 bm l S J F) (m : Mem) => truths1_c h hh 0 (by decide) bm hy m
    have hlist := fun s (q : s < 2 ^ 62) => list_c s h.ships.length q (by omega)
    have hp : (2 : Nat) ^ h.ships.length ≤ 2 ^ 3 := Nat.pow_le_pow_right (by decide) h3
    simp only [lookedL, Int.natCast_zero, ints] at htr hlist ⊢
    subst hR
    clear hen hbad hgood
    simp (maxSteps := 4000000) only [↓VP, VQ, ite_self, Nat.reduceEqDiff, Nat.reduceAdd, Nat.reduceSub, Nat.reduceMul, Nat.reduceLeDiff, Nat.reduceLT, Nat.reduceBEq, Int.reduceLE, Int.reduceLT, Int.reduceNeg, Int.reduceAdd, Int.reduceSub, Int.reduceToNat, ↓reduceIte, reduceCtorEq, ↓ixShip, ↓ixCall, ↓ixLet, ↓ixRep]
    intro b8 hb8
    have n8 := ne_of_some hbn hb8
    (refine ACall.pure (htr) ?_; try simp (maxSteps := 4000000) only [↓VP, VQ, ite_self, Nat.reduceEqDiff, Nat.reduceAdd, Nat.reduceSub, Nat.reduceMul, Nat.reduceLeDiff, Nat.reduceLT, Nat.reduceBEq, Int.reduceLE, Int.reduceLT, Int.reduceNeg, Int.reduceAdd, Int.reduceSub, Int.reduceToNat, ↓reduceIte, reduceCtorEq, ↓ixShip, ↓ixCall, ↓ixLet, ↓ixRep])
    refine arange rfl (f := 133) (first := []) (caps := [.eptr [.eptr (lookedL h 0 bm)]]) (by simp (maxSteps := 4000000) only [↓VP, VQ, ite_self, Nat.reduceEqDiff, Nat.reduceAdd, Nat.reduceSub, Nat.reduceMul, Nat.reduceLeDiff, Nat.reduceLT, Nat.reduceBEq, Int.reduceLE, Int.reduceLT, Int.reduceNeg, Int.reduceAdd, Int.reduceSub, Int.reduceToNat, ↓reduceIte, reduceCtorEq, ↓ixShip, ↓ixCall, ↓ixLet, ↓ixRep, lookedL, Int.natCast_zero]) ?_
    intro l hl
    have hl8 : l ≠ b8 := by rintro rfl; simp [upd] at hl
    have hl0 : m1 l = none := by simpa [upd, hl8] using hl
    have nl := ne_of_some hbn hl0
    generalize hR : LoopA.mk _ _ _ _ _ = R
    have hyok : YTok h 0 bm l (fun k => k = l ∨ k = b8) (fun pre m2 => m2 l = some (.loop .ready none R) ∧ m2 b8 = some (.cells [.int .i64 (setOf (goS h k pre) h.ships.length : Nat)])) (fun _ => False) := by
      refine ⟨fun pre x m2 hn hx hin ok hk hJ => ?_, fun pre m2 m3 hJ hs => ?_⟩
      · obtain ⟨j3, j8⟩ := hJ
        subst hR
        refine ayield (E := envC (modeAt [10] [8]) true []) (envCOk _ _ _) rfl j3 rfl (by rfl) (by rfl) (by rfl) ?_
        have hfl := nL_length (loadK h 0 x h.reports.length) 4
        have hff := nL_flat (loadK h 0 x h.reports.length) 4
        have hdr := nL_drop (f := loadK h 0 x h.reports.length) (show k < 4 by omega)
        have hat := load_at (h := h) (x := x) hkl
        have ha1 := goS_snoc h k pre x h.ships.length
        have hv1 := setOf_lt (goS h k pre) h.ships.length
        have hv2 := setOf_lt (loadB h (fun i => x[i]!) k 0 h.reports.length) h.ships.length
        generalize setOf (goS h k pre) h.ships.length = A at *
        generalize setOf (loadB h (fun i => x[i]!) k 0 h.reports.length) h.ships.length = B at *
        rw [hat] at hdr
        have hd4 : List.drop 4 [AV.int .i64 0, AV.int .i64 0, AV.int .i64 0, AV.int .i64 0] = [] := rfl
        simp (maxSteps := 4000000) only [↓VP, VQ, ite_self, Nat.reduceEqDiff, Nat.reduceAdd, Nat.reduceSub, Nat.reduceMul, Nat.reduceLeDiff, Nat.reduceLT, Nat.reduceBEq, Int.reduceLE, Int.reduceLT, Int.reduceNeg, Int.reduceAdd, Int.reduceSub, Int.reduceToNat, ↓reduceIte, reduceCtorEq, ↓ixShip, ↓ixCall, ↓ixLet, ↓ixRep, j3, loadsV, hfl, hff, hd4]
        repeat' (first | intro _ | refine And.intro ?_ ?_)
        (refine adraw (by first | exact envOk _ | exact envCOk _ _ _) mixed [⟨false, false, 0⟩, ⟨false, false, 0⟩, ⟨false, false, 0⟩, ⟨false, false, 0⟩, ⟨false, false, 0⟩, ⟨false, false, 0⟩] (by kernel_rfl) ?_; show vcOpsD _ _ _ (_ :: _) _ _)
        simp (maxSteps := 4000000) only [↓VP, VQ, ite_self, Nat.reduceEqDiff, Nat.reduceAdd, Nat.reduceSub, Nat.reduceMul, Nat.reduceLeDiff, Nat.reduceLT, Nat.reduceBEq, Int.reduceLE, Int.reduceLT, Int.reduceNeg, Int.reduceAdd, Int.reduceSub, Int.reduceToNat, ↓reduceIte, reduceCtorEq, ↓ixShip, ↓ixCall, ↓ixLet, ↓ixRep, j8, hl8, hl8.symm, hdr, hfl, hd4]
        repeat' (first | intro _ | refine And.intro ?_ ?_)
        all_goals try omega
        · exact ⟨fun k y hq hy => by simp only [not_or] at hq; simp only [upd, if_neg hq.1, if_neg hq.2]; exact hy⟩
        · rw [ha1]; exact .inl rfl
      · obtain ⟨j3, j8⟩ := hJ
        exact ⟨by rw [hs l (.inl rfl)]; exact j3, by rw [hs b8 (.inr rfl)]; exact j8⟩
    have hdom : ∀ k y, m1 k = some y → k ≠ l ∧ k ≠ b8 := fun k y hy => ⟨ne_of_some hy hl0, ne_of_some hy hb8⟩
    refine ACall.mono (ht1 l _ _ _ hyok _ ?_ ?_ ?_ ?_) ?_ <;> (try dsimp only)
    · obtain ⟨ls, k1, k2⟩ := hkn
      exact ⟨ls, k1, by simp [upd, nl, n8]; exact k2⟩
    · rintro k (rfl | rfl)
      · simp [upd]
      · simp [upd, hl8.symm]
    · rintro (e | e)
      · exact nl e
      · exact n8 e
    · refine ⟨upd_same _ _ _, ?_⟩
      rw [show goS h k [] = fun _ => false from rfl, setOf_false]
      simp [upd, hl8.symm]
    · rintro r m' ⟨k1, k2, k3⟩
      have kk2 : ∀ k y, m k = some y → m' k = some y ∧ k ≠ l := by
        intro k y hy
        have hy1 := kk k y (fun h => h) hy
        obtain ⟨a1, a2⟩ := hdom k y hy1
        have a5 : k ≠ bm := ne_of_some hy hbm
        exact ⟨k1 k y (by rintro ((e | e) | e); exact a1 e; exact a2 e; exact a5 e) (by simp [upd, a1, a2]; exact hy1), a1⟩
      clear ht1 hyok
      rcases k3 with ⟨L, ⟨j3, j8⟩, g⟩ | hF
      · have s1 := by_same hh (given_same hh g) hkl
        have hv1 := setOf_lt (goS h k L) h.ships.length
        have hl1 := hlist (setOf (goS h k L) h.ships.length) (by omega)
        rw [s1] at hl1
        simp (maxSteps := 4000000) only [↓VP, VQ, ite_self, Nat.reduceEqDiff, Nat.reduceAdd, Nat.reduceSub, Nat.reduceMul, Nat.reduceLeDiff, Nat.reduceLT, Nat.reduceBEq, Int.reduceLE, Int.reduceLT, Int.reduceNeg, Int.reduceAdd, Int.reduceSub, Int.reduceToNat, ↓reduceIte, reduceCtorEq, ↓ixShip, ↓ixCall, ↓ixLet, ↓ixRep, j3, j8, hl8, hl8.symm]
        repeat' (first | intro _ | refine And.intro ?_ ?_)
        refine ACall.pure hl1 ?_
        simp (maxSteps := 4000000) only [↓VP, VQ, ite_self, Nat.reduceEqDiff, Nat.reduceAdd, Nat.reduceSub, Nat.reduceMul, Nat.reduceLeDiff, Nat.reduceLT, Nat.reduceBEq, Int.reduceLE, Int.reduceLT, Int.reduceNeg, Int.reduceAdd, Int.reduceSub, Int.reduceToNat, ↓reduceIte, reduceCtorEq, ↓ixShip, ↓ixCall, ↓ixLet, ↓ixRep]
        refine ⟨m, fun k y hy => ?_, rfl⟩
        obtain ⟨e1, e2⟩ := kk2 k y hy
        simp only [if_neg e2]
        exact e1
      · exact hF.elim
end Go.Proofs.Ytnfmmhmfbipkjaa.Abs

/- Laws: Come, Before: days by pairs. -/
namespace Go.Proofs.Ytnfmmhmfbipkjaa.Abs
set_option linter.unusedSimpArgs false
open Go Go.RowKit Go.Proofs

/-- Of how many things it is so. -/
def cnt {α : Type} (p : α → Bool) (D : List α) : Int := ((D.filter p).length : Nat)
theorem cnt_le {α : Type} (p : α → Bool) (D : List α) : 0 ≤ cnt p D ∧ cnt p D ≤ (D.length : Int) := by
  have := List.length_filter_le p D
  unfold cnt; omega
theorem cnt_snoc {α : Type} (p : α → Bool) (D : List α) (x : α) : cnt p (D ++ [x]) = if p x = true then cnt p D + 1 else cnt p D := by
  unfold cnt
  rw [List.filter_append, List.length_append]
  by_cases q : p x = true
  · rw [if_pos q]; simp [q]
  · rw [if_neg q]; simp [q]
theorem cnt_app {α : Type} (p : α → Bool) (D E : List α) : cnt p (D ++ E) = cnt p D + cnt p E := by
  unfold cnt; rw [List.filter_append, List.length_append]; omega
theorem cnt_all {α : Type} {p : α → Bool} {D : List α} : cnt p D = (D.length : Int) ↔ ∀ x ∈ D, p x = true := by
  unfold cnt
  rw [← List.length_filter_eq_length_iff]
  omega
theorem cnt_none {α : Type} {p : α → Bool} {D : List α} : cnt p D = 0 ↔ ∀ x ∈ D, p x = false := by
  unfold cnt
  constructor
  · intro e x hx
    have h0 : (D.filter p).length = 0 := by omega
    rw [List.length_eq_zero_iff, List.filter_eq_nil_iff] at h0
    simpa using h0 x hx
  · intro e
    have : D.filter p = [] := by rw [List.filter_eq_nil_iff]; intro x hx; rw [e x hx]; simp
    rw [this]; rfl
theorem settled_lists {α β : Type} {p : α → Bool} {q : β → Bool} {D : List α} {E : List β} (h1 : (∀ x ∈ D, p x = true) ↔ ∀ x ∈ E, q x = true) (h2 : (∀ x ∈ D, p x = false) ↔ ∀ x ∈ E, q x = false) : settledR (cnt p D) D.length = settledR (cnt q E) E.length :=
  settled_same (cnt_all.trans (h1.trans cnt_all.symm)) (cnt_none.trans (h2.trans cnt_none.symm))

theorem same_mem {h : RHarb} {L : List (List Fate)} (g : Same h L) (P : RTru → Prop) : (∀ t ∈ truthsR h [], P t) ↔ ∀ x ∈ L, P (truOf h [] x) := by
  constructor
  · intro q x hx; exact q _ (g.b x hx)
  · intro q t ht
    obtain ⟨x, hx, rfl⟩ := g.a t ht
    exact q x hx

/-- The ships by which a letter can go, in a fleet. -/
def goL (h : RHarb) (k : Nat) (x : List Fate) : List Int := listTo (loadS h (fun i => x[i]!) 0 h.reports.length k) h.ships.length
theorem goL_mem {h : RHarb} {k : Nat} {x : List Fate} {s : Int} (hs : s ∈ goL h k x) : 0 ≤ s ∧ s.toNat < h.ships.length := by
  unfold goL listTo at hs
  simp only [List.mem_map, List.mem_filter, List.mem_range] at hs
  obtain ⟨i, ⟨hi, _⟩, rfl⟩ := hs
  omega
theorem goL_length (h : RHarb) (k : Nat) (x : List Fate) : (goL h k x).length ≤ h.ships.length := by unfold goL; exact listTo_length _ _
/-- The days on which a letter comes, by each ship of each fleet. -/
def dayC (h : RHarb) (k : Nat) (x : List Fate) (s : Int) : Int := dA h s.toNat (h.letters[k]!).port x
def rowC (h : RHarb) (k : Nat) (x : List Fate) : List Int := (goL h k x).map (dayC h k x)
def daysC (h : RHarb) (k : Nat) (L : List (List Fate)) : List Int := L.flatMap (rowC h k)
theorem daysC_snoc (h : RHarb) (k : Nat) (L : List (List Fate)) (x : List Fate) : daysC h k (L ++ [x]) = daysC h k L ++ rowC h k x := by simp [daysC]
theorem daysC_length {h : RHarb} (h3 : h.ships.length ≤ 3) (k : Nat) (L : List (List Fate)) : (daysC h k L).length ≤ L.length * 3 := by
  unfold daysC
  refine flatMap_le (Nat.le_refl _) fun x _ => ?_
  unfold rowC
  rw [List.length_map]
  exact Nat.le_trans (goL_length h k x) h3

/-- The same in the reference. -/
def rowE (h : RHarb) (k : Nat) (t : RTru) : List Int := (t.by_[k]!).map fun s => dayR h t.fleet s.toNat (h.letters[k]!).port
theorem comeIn_is (h : RHarb) (t : RTru) (k : Nat) (day : Int) : ∀ n, n ≤ (t.by_[k]!).length → comeIn h t k day n = cnt (fun d => untilB d day) ((rowE h k t).take n)
  | 0, _ => by simp [comeIn, cnt]
  | n + 1, hn => by
    have ih := comeIn_is h t k day n (by omega)
    have hlt : n < (rowE h k t).length := by unfold rowE; rw [List.length_map]; omega
    have e : (rowE h k t)[n] = dayR h t.fleet ((t.by_[k]!)[n]!).toNat (h.letters[k]!).port := by
      rw [getD_any (show n < (t.by_[k]!).length by omega)]
      simp only [rowE, List.getElem_map]
    rw [List.take_succ_eq_append_getElem hlt, cnt_snoc, e, ← ih]
    show comeIn h t k day n + (if untilB (dayR h t.fleet ((t.by_[k]!)[n]!).toNat (h.letters[k]!).port) day = true then 1 else 0) = if untilB (dayR h t.fleet ((t.by_[k]!)[n]!).toNat (h.letters[k]!).port) day = true then comeIn h t k day n + 1 else comeIn h t k day n
    split <;> omega
theorem comeTo_is (h : RHarb) (l : List RTru) (k : Nat) (day : Int) : ∀ n, n ≤ l.length → comeTo h l k day n = cnt (fun d => untilB d day) ((l.take n).flatMap (rowE h k)) ∧ allTo l k n = (((l.take n).flatMap (rowE h k)).length : Int)
  | 0, _ => by simp [comeTo, allTo, cnt]
  | n + 1, hn => by
    obtain ⟨i1, i2⟩ := comeTo_is h l k day n (by omega)
    have hr : (rowE h k l[n]).length = (l[n].by_[k]!).length := by unfold rowE; rw [List.length_map]
    rw [List.take_succ_eq_append_getElem (by omega), List.flatMap_append, List.flatMap_singleton, cnt_app, List.length_append, ← i1]
    have c1 : comeTo h l k day (n + 1) = comeTo h l k day n + comeIn h (l[n]!) k day ((l[n]!).by_[k]!).length := rfl
    have c2 : allTo l k (n + 1) = allTo l k n + (((l[n]!).by_[k]!).length : Int) := rfl
    rw [c1, c2, getD_any (by omega), i2, comeIn_is h _ k day _ (Nat.le_refl _), ← hr, List.take_length]
    exact ⟨rfl, by omega⟩

theorem come_same {h : RHarb} (hh : HOk h) {L : List (List Fate)} (g : Same h L) {k : Nat} (hk : k < h.letters.length) {day : Int} (hd : day ≤ 60) :
    settledR (cnt (fun d => decide (d ≤ day)) (daysC h k L)) (daysC h k L).length = settledR (comeTo h (truthsR h []) k day (truthsR h []).length) (allTo (truthsR h []) k (truthsR h []).length) := by
  obtain ⟨e1, e2⟩ := comeTo_is h (truthsR h []) k day _ (Nat.le_refl _)
  rw [e1, e2, List.take_length]
  have key : ∀ c : Bool, (∀ d ∈ daysC h k L, decide (d ≤ day) = c) ↔ ∀ d ∈ (truthsR h []).flatMap (rowE h k), untilB d day = c := fun c => by
    have h1 : (∀ d ∈ (truthsR h []).flatMap (rowE h k), untilB d day = c) ↔ ∀ t ∈ truthsR h [], ∀ d ∈ rowE h k t, untilB d day = c := by
      simp only [List.mem_flatMap]
      exact ⟨fun q t ht d hd => q d ⟨t, ht, hd⟩, fun q d ⟨t, ht, hd⟩ => q t ht d hd⟩
    have h2 : (∀ d ∈ daysC h k L, decide (d ≤ day) = c) ↔ ∀ x ∈ L, ∀ d ∈ rowC h k x, decide (d ≤ day) = c := by
      unfold daysC
      simp only [List.mem_flatMap]
      exact ⟨fun q t ht d hd => q d ⟨t, ht, hd⟩, fun q d ⟨t, ht, hd⟩ => q t ht d hd⟩
    rw [h1, h2, same_mem g (fun t => ∀ d ∈ rowE h k t, untilB d day = c)]
    have h3 : ∀ x ∈ L, (∀ d ∈ rowC h k x, decide (d ≤ day) = c) ↔ ∀ d ∈ rowE h k (truOf h [] x), untilB d day = c := fun x hx => by
      unfold rowC rowE
      rw [true_by hh (g.fok x hx) hk]
      simp only [List.forall_mem_map]
      have : ∀ s ∈ goL h k x, decide (dayC h k x s ≤ day) = untilB (dayR h (truOf h [] x).fleet s.toNat (h.letters[k]!).port) day := fun s hs => by
        have hs' := (goL_mem hs).2
        have := dayN_R hh (g.fok x hx) hs' (h.letters[k]!).port
        have := dayR_le hh (g.fok x hx) hs' (h.letters[k]!).port
        unfold dayC dA untilB
        rw [show (truOf h [] x).fleet = x from rfl, dayN_R hh (g.fok x hx) hs' (h.letters[k]!).port]
        rw [Bool.eq_iff_iff]
        simp only [Bool.and_eq_true, decide_eq_true_eq]
        split <;> omega
      exact ⟨fun q s hs => by rw [← this s hs]; exact q s hs, fun q s hs => by rw [this s hs]; exact q s hs⟩
    exact ⟨fun q x hx => (h3 x hx).1 (q x hx), fun q x hx => (h3 x hx).2 (q x hx)⟩
  exact settled_lists (key true) (key false)

def comeE (h : RHarb) (letter day : Int) : Int := dayE day (indexE (checkH h).2.2 letter h.letters.length)
theorem dayE_bad {d e : Int} (he : e ≠ 0) : dayE d e = e := by unfold dayE; rw [if_neg he]
theorem comeE_known {h : RHarb} {letter day : Int} : (knownR h (comeE h letter day)).2 = enterE h h.letters.length (datedE day) [letter] := by
  refine known_enter (fun q => ?_) (fun q => ?_)
  · unfold comeE; rw [indexE_bad q, dayE_bad q]
  · unfold comeE
    rw [q, indexE_good]
    simp only [List.any_cons, List.any_nil, Bool.or_false]
    by_cases q1 : offP 0 ((h.letters.length : Int) - 1) letter = true
    · simp only [if_pos q1]; exact dayE_bad (by decide)
    · simp only [if_neg q1]; unfold dayE datedE; rw [if_pos rfl]
theorem comeR_is (h : RHarb) (letter day : Int) : comeR h letter day = if (knownR h (comeE h letter day)).2 = 0 then (settledR (comeTo h (knownR h (comeE h letter day)).1 letter.toNat day (knownR h (comeE h letter day)).1.length) (allTo (knownR h (comeE h letter day)).1 letter.toNat (knownR h (comeE h letter day)).1.length), 0) else (0, (knownR h (comeE h letter day)).2) := rfl
theorem comeR_err {h : RHarb} {letter day : Int} : (comeR h letter day).2 = enterE h h.letters.length (datedE day) [letter] := by
  rw [← comeE_known, comeR_is]
  split
  · rename_i q; exact q.symm
  · rfl
theorem comeR_bad {h : RHarb} {letter day : Int} (e : (comeR h letter day).2 ≠ 0) : comeR h letter day = (0, (comeR h letter day).2) := by
  rw [comeR_is] at e ⊢
  split at e
  · exact absurd rfl e
  · rename_i q; rw [if_neg q]
theorem comeR_good {h : RHarb} {letter day : Int} (e : (comeR h letter day).2 = 0) : comeR h letter day = (settledR (comeTo h (truthsR h []) letter.toNat day (truthsR h []).length) (allTo (truthsR h []) letter.toNat (truthsR h []).length), 0) := by
  rw [comeR_is] at e ⊢
  split at e
  · rename_i q
    obtain ⟨k1, k2, k3⟩ := known_zero q
    rw [if_pos q, k2]
  · rename_i q; exact absurd e q
end Go.Proofs.Ytnfmmhmfbipkjaa.Abs

/- Contracts: Come. -/
namespace Go.Proofs.Ytnfmmhmfbipkjaa.Abs
set_option linter.unusedSimpArgs false
set_option maxHeartbeats 4000000
set_option maxRecDepth 100000
open Go Go.RowKit Go.Proofs

theorem come_top (h : RHarb) (hs : hnamesFit h) (letter day : Int) : PCall Try.prog 24 [harbA h, .int .i64 letter, .int .i64 day] (.tuple [.int .i64 (comeR h letter day).1, .int .i64 (comeR h letter day).2]) := by
  intro m
  refine ACall.forget ?_
  have hen := fun other m => enter_c h hs h.letters.length other [letter] (fun q => by have := (hok_check q).nl; omega) m
  have hE := comeR_err (h := h) (letter := letter) (day := day)
  have hbad := comeR_bad (h := h) (letter := letter) (day := day)
  have hgood := comeR_good (h := h) (letter := letter) (day := day)
  have hdat := dated_c day
  have hhow := how_c
  have hd60 : datedE day = 0 → 0 ≤ day ∧ day ≤ 60 := fun e => by
    unfold datedE at e
    split at e
    · cases e
    · rename_i q; rwa [Bool.not_eq_true, offP_false] at q
  generalize comeR h letter day = R at *
  generalize datedE day = W at *
  simp only [harbA, harbL, ints, List.map_nil, List.map_cons] at hen ⊢
  (refine acall_intro (E := envC (modeAt [8, 11, 12] [10]) false []) (envCOk _ _ _) rfl Try.func24 rfl Try.call24 (by kernel_rfl) (by simp [Try.ntmps24]) ?_; simp only [Try.f24];  simp (maxSteps := 4000000) only [↓VP, VQ, ite_self, Nat.reduceEqDiff, Nat.reduceAdd, Nat.reduceSub, Nat.reduceMul, Nat.reduceLeDiff, Nat.reduceLT, Nat.reduceBEq, Int.reduceLE, Int.reduceLT, Int.reduceNeg, Int.reduceAdd, Int.reduceSub, Int.reduceToNat, ↓reduceIte, reduceCtorEq, ↓ixShip, ↓ixCall, ↓ixLet, ↓ixRep])
  (refine adrawP (by first | exact envOk _ | exact envCOk _ _ _) mixed [12, 0, 1, 2, 3, 4, 5, 6, 7, 8, 9, 10, 11, 13, 14] [⟨true, false, 0⟩, ⟨true, false, 0⟩, ⟨true, false, 0⟩, ⟨true, false, 0⟩, ⟨true, false, 0⟩, ⟨true, false, 0⟩, ⟨true, false, 0⟩, ⟨true, false, 0⟩, ⟨false, false, 2⟩, ⟨true, false, 0⟩, ⟨true, false, 0⟩, ⟨true, false, 0⟩, ⟨true, false, 0⟩, ⟨false, false, 0⟩, ⟨false, false, 0⟩] (by kernel_rfl) ?_; simp only [List.map_cons, List.map_nil, List.getD_cons_zero, List.getD_cons_succ, List.getElem?_cons_zero, List.getElem?_cons_succ, Option.getD_some]; show vcOpsD _ _ _ (_ :: _) _ _)
  simp (maxSteps := 4000000) only [↓VP, VQ, ite_self, Nat.reduceEqDiff, Nat.reduceAdd, Nat.reduceSub, Nat.reduceMul, Nat.reduceLeDiff, Nat.reduceLT, Nat.reduceBEq, Int.reduceLE, Int.reduceLT, Int.reduceNeg, Int.reduceAdd, Int.reduceSub, Int.reduceToNat, ↓reduceIte, reduceCtorEq, ↓ixShip, ↓ixCall, ↓ixLet, ↓ixRep]
  repeat' (first | intro _ | refine And.intro ?_ ?_)
  refine VPure.of hdat ?_
  simp (maxSteps := 4000000) only [↓VP, VQ, ite_self, Nat.reduceEqDiff, Nat.reduceAdd, Nat.reduceSub, Nat.reduceMul, Nat.reduceLeDiff, Nat.reduceLT, Nat.reduceBEq, Int.reduceLE, Int.reduceLT, Int.reduceNeg, Int.reduceAdd, Int.reduceSub, Int.reduceToNat, ↓reduceIte, reduceCtorEq, ↓ixShip, ↓ixCall, ↓ixLet, ↓ixRep]
  repeat' (first | intro _ | refine And.intro ?_ ?_)
  refine ACall.told (hen _ _) ?_
  rintro r m1 ⟨kk, ⟨hz, rfl⟩ | ⟨hz, bm, hbm, rfl, hkn⟩⟩
  · rw [← hE] at hz
    have hb := hbad hz
    rw [← hE]
    generalize R.2 = e at *
    subst hb
    simp (maxSteps := 4000000) only [↓VP, VQ, ite_self, Nat.reduceEqDiff, Nat.reduceAdd, Nat.reduceSub, Nat.reduceMul, Nat.reduceLeDiff, Nat.reduceLT, Nat.reduceBEq, Int.reduceLE, Int.reduceLT, Int.reduceNeg, Int.reduceAdd, Int.reduceSub, Int.reduceToNat, ↓reduceIte, reduceCtorEq, ↓ixShip, ↓ixCall, ↓ixLet, ↓ixRep, hz]
    exact ⟨m, fun b x hx => kk b x (fun h => h) hx, rfl⟩
  · obtain ⟨z1, z2, z3, z4⟩ := enter_zero hz
    have hle := z2 letter (by simp)
    have hd := hd60 z3
    have hh := hok_check z1
    have h3 := hh.n
    have h4 := hh.nl
    have hR := hgood (by rw [hE]; exact hz)
    have hkl : letter.toNat < h.letters.length := by omega
    have hlk : letter = ((letter.toNat : Nat) : Int) := by omega
    generalize letter.toNat = k at *
    subst hlk
    have htr := truthsF_c h 0 bm
    have hbn : ∃ y, m1 bm = some y := by obtain ⟨ls, k1, k2⟩ := hkn; exact ⟨_, k2⟩
    obtain ⟨yb, hbn⟩ := hbn
    have ht1 := fun (l : Nat) (S : Nat → Prop) (J : List (List Fate) → Mem → Prop) (F : Mem → Prop) (hy : YTok h 0 bm l S J F) (m : Mem) => truths1_c h hh 0 (by decide) bm hy m
    have hlist := fun s (q : s < 2 ^ 62) => list_c s h.ships.length q (by omega)
    have hday := fun (x : List Fate) (hx : FOk h x) (s : Nat) (q : s < h.ships.length) => day_c h hh 0 bm (fun i => x[i]!) s (h.letters[k]!).port q (hx.late _ (by rw [hx.n]; exact q))
    have hp : (2 : Nat) ^ h.ships.length ≤ 2 ^ 3 := Nat.pow_le_pow_right (by decide) h3
    simp only [lookedL, Int.natCast_zero, ints, fleetA] at htr hlist hday ⊢
    subst hR
    clear hen hbad hgood
    simp (maxSteps := 4000000) only [↓VP, VQ, ite_self, Nat.reduceEqDiff, Nat.reduceAdd, Nat.reduceSub, Nat.reduceMul, Nat.reduceLeDiff, Nat.reduceLT, Nat.reduceBEq, Int.reduceLE, Int.reduceLT, Int.reduceNeg, Int.reduceAdd, Int.reduceSub, Int.reduceToNat, ↓reduceIte, reduceCtorEq, ↓ixShip, ↓ixCall, ↓ixLet, ↓ixRep]
    intro b10 hb10
    have n10 := ne_of_some hbn hb10
    (refine ACall.pure (htr) ?_; try simp (maxSteps := 4000000) only [↓VP, VQ, ite_self, Nat.reduceEqDiff, Nat.reduceAdd, Nat.reduceSub, Nat.reduceMul, Nat.reduceLeDiff, Nat.reduceLT, Nat.reduceBEq, Int.reduceLE, Int.reduceLT, Int.reduceNeg, Int.reduceAdd, Int.reduceSub, Int.reduceToNat, ↓reduceIte, reduceCtorEq, ↓ixShip, ↓ixCall, ↓ixLet, ↓ixRep])
    refine ARange.freeze 8 ?_
    simp (maxSteps := 4000000) only [↓VP, VQ, ite_self, Nat.reduceEqDiff, Nat.reduceAdd, Nat.reduceSub, Nat.reduceMul, Nat.reduceLeDiff, Nat.reduceLT, Nat.reduceBEq, Int.reduceLE, Int.reduceLT, Int.reduceNeg, Int.reduceAdd, Int.reduceSub, Int.reduceToNat, ↓reduceIte, reduceCtorEq, ↓ixShip, ↓ixCall, ↓ixLet, ↓ixRep]
    refine arange rfl (f := 133) (first := []) (caps := [.eptr [.eptr (lookedL h 0 bm)]]) (by simp (maxSteps := 4000000) only [↓VP, VQ, ite_self, Nat.reduceEqDiff, Nat.reduceAdd, Nat.reduceSub, Nat.reduceMul, Nat.reduceLeDiff, Nat.reduceLT, Nat.reduceBEq, Int.reduceLE, Int.reduceLT, Int.reduceNeg, Int.reduceAdd, Int.reduceSub, Int.reduceToNat, ↓reduceIte, reduceCtorEq, ↓ixShip, ↓ixCall, ↓ixLet, ↓ixRep, lookedL, Int.natCast_zero]) ?_
    intro l hl
    have hl10 : l ≠ b10 := by rintro rfl; simp [upd] at hl
    have hl0 : m1 l = none := by simpa [upd, hl10] using hl
    have nl := ne_of_some hbn hl0
    generalize hR : LoopA.mk _ _ _ _ _ = R
    have hyok : YTok h 0 bm l (fun k => k = l ∨ k = b10) (fun pre m2 => m2 l = some (.loop .ready none R) ∧ m2 b10 = some (.cells [.int .i64 (cnt (fun d => decide (d ≤ day)) (daysC h k pre)), .int .i64 ((daysC h k pre).length : Nat)])) (fun _ => False) := by
      refine ⟨fun pre x m2 hn hx hin ok hk hJ => ?_, fun pre m2 m3 hJ hs => ?_⟩
      · obtain ⟨j3, j10⟩ := hJ
        subst hR
        refine ayield (E := envC (modeAt [8, 11, 12] [10]) true []) (envCOk _ _ _) rfl j3 rfl (by rfl) (by rfl) (by rfl) ?_
        have hfl := nL_length (loadK h 0 x h.reports.length) 4
        have hff := nL_flat (loadK h 0 x h.reports.length) 4
        have hdr := nL_drop (f := loadK h 0 x h.reports.length) (show k < 4 by omega)
        have hat := load_at (h := h) (x := x) hkl
        have hd4 : List.drop 4 [AV.int .i64 0, AV.int .i64 0, AV.int .i64 0, AV.int .i64 0] = [] := rfl
        have hd6 : List.drop 6 [AV.int .i64 0, AV.int .i64 0, AV.int .i64 0, AV.int .i64 0, AV.int .i64 0, AV.int .i64 0] = [] := rfl
        have hgl := fleetL_length fun i => x[i]!
        have hgf := fleetL_flat fun i => x[i]!
        have hgt := fleetL_take fun i => x[i]!
        have hv2 := setOf_lt (loadB h (fun i => x[i]!) k 0 h.reports.length) h.ships.length
        have hlst := hlist (setOf (loadB h (fun i => x[i]!) k 0 h.reports.length) h.ships.length) (by omega)
        change PCall _ _ _ (.slice 1 ((goL h k x).map (AV.int .i64))) at hlst
        have hgn := goL_length h k x
        rw [hat] at hdr
        simp (maxSteps := 4000000) only [↓VP, VQ, ite_self, Nat.reduceEqDiff, Nat.reduceAdd, Nat.reduceSub, Nat.reduceMul, Nat.reduceLeDiff, Nat.reduceLT, Nat.reduceBEq, Int.reduceLE, Int.reduceLT, Int.reduceNeg, Int.reduceAdd, Int.reduceSub, Int.reduceToNat, ↓reduceIte, reduceCtorEq, ↓ixShip, ↓ixCall, ↓ixLet, ↓ixRep, j3, loadsV, keyA, fleetA, hfl, hff, hd4, hgl, hgf, hd6]
        generalize hmB : upd m2 l (some _) = mB
        have hbl := congrFun hmB l
        rw [upd_same] at hbl
        have hbl := hbl.symm
        have hB : ∀ k, k ≠ l → mB k = m2 k := fun k hk => by rw [← hmB, upd_ne _ _ hk]
        (refine adraw (by first | exact envOk _ | exact envCOk _ _ _) mixed [⟨false, false, 0⟩, ⟨false, false, 0⟩, ⟨false, false, 0⟩, ⟨false, false, 0⟩, ⟨false, false, 0⟩, ⟨false, false, 0⟩, ⟨false, false, 0⟩, ⟨false, false, 0⟩, ⟨false, false, 0⟩] (by kernel_rfl) ?_; show vcOpsD _ _ _ (_ :: _) _ _)
        simp (maxSteps := 4000000) only [↓VP, VQ, ite_self, Nat.reduceEqDiff, Nat.reduceAdd, Nat.reduceSub, Nat.reduceMul, Nat.reduceLeDiff, Nat.reduceLT, Nat.reduceBEq, Int.reduceLE, Int.reduceLT, Int.reduceNeg, Int.reduceAdd, Int.reduceSub, Int.reduceToNat, ↓reduceIte, reduceCtorEq, ↓ixShip, ↓ixCall, ↓ixLet, ↓ixRep, hdr, hfl, hd4]
        repeat' (first | intro _ | refine And.intro ?_ ?_)
        all_goals try omega
        refine VPure.of hlst ?_
        simp (maxSteps := 4000000) only [↓VP, VQ, ite_self, Nat.reduceEqDiff, Nat.reduceAdd, Nat.reduceSub, Nat.reduceMul, Nat.reduceLeDiff, Nat.reduceLT, Nat.reduceBEq, Int.reduceLE, Int.reduceLT, Int.reduceNeg, Int.reduceAdd, Int.reduceSub, Int.reduceToNat, ↓reduceIte, reduceCtorEq, ↓ixShip, ↓ixCall, ↓ixLet, ↓ixRep]
        have j10B : mB b10 = some (.cells [.int .i64 (cnt (fun d => decide (d ≤ day)) (daysC h k pre)), .int .i64 ((daysC h k pre).length : Nat)]) := by rw [hB _ hl10.symm]; exact j10
        have hDn := daysC_length h3 k pre
        have hrl : (rowC h k x).length = (goL h k x).length := by unfold rowC; rw [List.length_map]
        have hsn := daysC_snoc h k pre x
        refine aloop (envCOk _ _ _) (fun i : Nat => ⟨[(3, .v (.eptr [.int .i64 h.ports, .int .i64 h.lost, .slice 5 (h.ships.map shipA), .slice 3 (h.letters.map letA), .slice 4 (h.reports.map repA)])), (4, .v (.eptr [.int .i64 k])), (5, .v (.eptr [.int .i64 day])), (8, .v (.eptr [.eptr (lookedL h 0 bm)])), (10, .v (.ptr b10 0)), (11, .loc 11 0),
            (40, .v (.slice 1 ((goL h k x).map (AV.int .i64)))), (41, .v (.int .i64 (goL h k x).length)), (42, .v (.int .i64 i))], [], [(11, fleetL fun i => x[i]!)], upd mB b10 (some (.cells [.int .i64 (cnt (fun d => decide (d ≤ day)) (daysC h k pre ++ (rowC h k x).take i)), .int .i64 ((daysC h k pre ++ (rowC h k x).take i).length : Nat)]))⟩)
          (fun i => i ≤ (goL h k x).length) (fun i => (goL h k x).length - i) 0 (fun _ => rfl) (by simp) (by (simp only [Fits, fitsV, fitsO, fitsL, ↓upd, ↓lookV, ↓lookO, ↓lookL, Nat.reduceEqDiff, ↓reduceIte, ints, and_true, true_and, Option.some.injEq]); rw [List.take_zero, List.append_nil, ← j10B, upd_self]; simp [lookedL, hd6, SV.av]) ?_
        intro i hi
        have hlt := fun (q : i < (goL h k x).length) => getD_any q
        have hadd := fun m is hm => add_c b10 (cnt (fun d => decide (d ≤ day)) (daysC h k pre ++ (rowC h k x).take i)) ((daysC h k pre ++ (rowC h k x).take i).length : Nat) is (by have := cnt_le (fun d => decide (d ≤ day)) (daysC h k pre ++ (rowC h k x).take i); simp only [List.length_append, List.length_take] at *; omega) (by simp only [List.length_append, List.length_take]; omega) m hm
        have hcs := cnt_snoc (fun d => decide (d ≤ day)) (daysC h k pre ++ (rowC h k x).take i) (dayC h k x ((goL h k x)[i]!))
        have htk : i < (goL h k x).length → (rowC h k x).take (i + 1) = (rowC h k x).take i ++ [dayC h k x ((goL h k x)[i]!)] := fun q => by
          rw [List.take_succ_eq_append_getElem (by rw [hrl]; exact q), getD_any q]
          simp only [rowC, List.getElem_map]
        generalize hD : daysC h k pre ++ (rowC h k x).take i = D at *
        simp only [lookedL, Int.natCast_zero]
        simp (maxSteps := 4000000) only [↓VP, VQ, ite_self, Nat.reduceEqDiff, Nat.reduceAdd, Nat.reduceSub, Nat.reduceMul, Nat.reduceLeDiff, Nat.reduceLT, Nat.reduceBEq, Int.reduceLE, Int.reduceLT, Int.reduceNeg, Int.reduceAdd, Int.reduceSub, Int.reduceToNat, ↓reduceIte, reduceCtorEq, ↓ixShip, ↓ixCall, ↓ixLet, ↓ixRep, ↓ixZ]
        repeat' (first | intro _ | refine And.intro ?_ ?_)
        all_goals try omega
        · have hil : i < (goL h k x).length := by omega
          have hgm := goL_mem (h := h) (k := k) (x := x) (s := (goL h k x)[i]!) (by rw [getD_any hil]; exact List.getElem_mem hil)
          have hdy := hday x hx ((goL h k x)[i]!).toNat hgm.2
          change PCall _ _ _ (.int .i64 (dayC h k x ((goL h k x)[i]!))) at hdy
          rw [Int.toNat_of_nonneg hgm.1] at hdy
          (refine adraw (by first | exact envOk _ | exact envCOk _ _ _) mixed [⟨false, false, 0⟩, ⟨false, false, 0⟩, ⟨true, false, 0⟩, ⟨true, false, 0⟩, ⟨true, false, 0⟩, ⟨true, false, 0⟩, ⟨true, false, 0⟩, ⟨true, false, 0⟩, ⟨true, false, 0⟩, ⟨false, false, 0⟩, ⟨true, false, 0⟩, ⟨false, false, 0⟩, ⟨false, false, 2⟩] (by kernel_rfl) ?_; show vcOpsD _ _ _ (_ :: _) _ _)
          simp (maxSteps := 4000000) only [↓VP, VQ, ite_self, Nat.reduceEqDiff, Nat.reduceAdd, Nat.reduceSub, Nat.reduceMul, Nat.reduceLeDiff, Nat.reduceLT, Nat.reduceBEq, Int.reduceLE, Int.reduceLT, Int.reduceNeg, Int.reduceAdd, Int.reduceSub, Int.reduceToNat, ↓reduceIte, reduceCtorEq, ↓ixShip, ↓ixCall, ↓ixLet, ↓ixRep, hgl, hgt]
          repeat' (first | intro _ | refine And.intro ?_ ?_)
          all_goals try omega
          refine VPure.of hdy ?_
          simp (maxSteps := 4000000) only [↓VP, VQ, ite_self, Nat.reduceEqDiff, Nat.reduceAdd, Nat.reduceSub, Nat.reduceMul, Nat.reduceLeDiff, Nat.reduceLT, Nat.reduceBEq, Int.reduceLE, Int.reduceLT, Int.reduceNeg, Int.reduceAdd, Int.reduceSub, Int.reduceToNat, ↓reduceIte, reduceCtorEq, ↓ixShip, ↓ixCall, ↓ixLet, ↓ixRep]
          repeat' (first | intro _ | refine And.intro ?_ ?_)
          refine ACall.told (hadd _ _ (upd_same _ _ _)) ?_
          rintro r m4 rfl
          simp (maxSteps := 4000000) only [↓VP, VQ, ite_self, Nat.reduceEqDiff, Nat.reduceAdd, Nat.reduceSub, Nat.reduceMul, Nat.reduceLeDiff, Nat.reduceLT, Nat.reduceBEq, Int.reduceLE, Int.reduceLT, Int.reduceNeg, Int.reduceAdd, Int.reduceSub, Int.reduceToNat, ↓reduceIte, reduceCtorEq, ↓ixShip, ↓ixCall, ↓ixLet, ↓ixRep]
          repeat' (first | intro _ | refine And.intro ?_ ?_)
          all_goals try omega
          refine ⟨i + 1, by dsimp only; omega, by dsimp only; omega, ?_⟩
          (simp only [Fits, fitsV, fitsO, fitsL, ↓upd, ↓lookV, ↓lookO, ↓lookL, Nat.reduceEqDiff, ↓reduceIte, ints, and_true, true_and, Option.some.injEq])
          rw [upd_upd, htk hil, ← List.append_assoc, hD, hcs]
          simp only [decide_eq_true_eq, List.length_append, List.length_cons, List.length_nil]
          exact ⟨rfl, rfl⟩
        · have hil : i = (goL h k x).length := by omega
          have hDe : D = daysC h k (pre ++ [x]) := by rw [hsn, ← hD, hil, ← hrl, List.take_length]
          subst hDe
          simp (maxSteps := 4000000) only [↓VP, VQ, ite_self, Nat.reduceEqDiff, Nat.reduceAdd, Nat.reduceSub, Nat.reduceMul, Nat.reduceLeDiff, Nat.reduceLT, Nat.reduceBEq, Int.reduceLE, Int.reduceLT, Int.reduceNeg, Int.reduceAdd, Int.reduceSub, Int.reduceToNat, ↓reduceIte, reduceCtorEq, ↓ixShip, ↓ixCall, ↓ixLet, ↓ixRep, hl10, hl10.symm, hbl]
          refine ⟨⟨fun k y hq hy => ?_⟩, .inl ?_⟩
          · simp only [not_or] at hq
            rw [upd_ne _ _ hq.1, upd_ne _ _ hq.2, hB _ hq.1]; exact hy
          · trivial
      · obtain ⟨j3, j10⟩ := hJ
        exact ⟨by rw [hs l (.inl rfl)]; exact j3, by rw [hs b10 (.inr rfl)]; exact j10⟩
    have hdom : ∀ k y, m1 k = some y → k ≠ l ∧ k ≠ b10 := fun k y hy => ⟨ne_of_some hy hl0, ne_of_some hy hb10⟩
    refine ACall.mono (ht1 l _ _ _ hyok _ ?_ ?_ ?_ ?_) ?_ <;> (try dsimp only)
    · obtain ⟨ls, k1, k2⟩ := hkn
      exact ⟨ls, k1, by simp [upd, nl, n10]; exact k2⟩
    · rintro k (rfl | rfl)
      · simp [upd]
      · simp [upd, hl10.symm]
    · rintro (e | e)
      · exact nl e
      · exact n10 e
    · refine ⟨upd_same _ _ _, ?_⟩
      simp [upd, hl10.symm, daysC, cnt]
    · rintro r m' ⟨k1, k2, k3⟩
      have kk2 : ∀ k y, m k = some y → m' k = some y ∧ k ≠ l := by
        intro k y hy
        have hy1 := kk k y (fun h => h) hy
        obtain ⟨a1, a2⟩ := hdom k y hy1
        have a5 : k ≠ bm := ne_of_some hy hbm
        exact ⟨k1 k y (by rintro ((e | e) | e); exact a1 e; exact a2 e; exact a5 e) (by simp [upd, a1, a2]; exact hy1), a1⟩
      clear ht1 hyok
      rcases k3 with ⟨L, ⟨j3, j10⟩, g⟩ | hF
      · have s1 := come_same hh (given_same hh g) hkl hd.2
        simp (maxSteps := 4000000) only [↓VP, VQ, ite_self, Nat.reduceEqDiff, Nat.reduceAdd, Nat.reduceSub, Nat.reduceMul, Nat.reduceLeDiff, Nat.reduceLT, Nat.reduceBEq, Int.reduceLE, Int.reduceLT, Int.reduceNeg, Int.reduceAdd, Int.reduceSub, Int.reduceToNat, ↓reduceIte, reduceCtorEq, ↓ixShip, ↓ixCall, ↓ixLet, ↓ixRep, j3, j10, hl10, hl10.symm]
        repeat' (first | intro _ | refine And.intro ?_ ?_)
        refine ACall.pure (hhow _ _) ?_
        rw [s1]
        simp (maxSteps := 4000000) only [↓VP, VQ, ite_self, Nat.reduceEqDiff, Nat.reduceAdd, Nat.reduceSub, Nat.reduceMul, Nat.reduceLeDiff, Nat.reduceLT, Nat.reduceBEq, Int.reduceLE, Int.reduceLT, Int.reduceNeg, Int.reduceAdd, Int.reduceSub, Int.reduceToNat, ↓reduceIte, reduceCtorEq, ↓ixShip, ↓ixCall, ↓ixLet, ↓ixRep]
        refine ⟨m, fun k y hy => ?_, rfl⟩
        obtain ⟨e1, e2⟩ := kk2 k y hy
        simp only [if_neg e2]
        exact e1
      · exact hF.elim
end Go.Proofs.Ytnfmmhmfbipkjaa.Abs

/- Laws: Before. -/
namespace Go.Proofs.Ytnfmmhmfbipkjaa.Abs
set_option linter.unusedSimpArgs false
open Go Go.RowKit Go.Proofs

/-- The days of two letters, by each ship of each fleet. -/
def besideC (h : RHarb) (b : Nat) (x : List Fate) (u : Int) : List (Int × Int) := (goL h b x).map fun s => (u, dayC h b x s)
def pairC (h : RHarb) (a b : Nat) (x : List Fate) : List (Int × Int) := (goL h a x).flatMap fun s => besideC h b x (dayC h a x s)
def pairsC (h : RHarb) (a b : Nat) (L : List (List Fate)) : List (Int × Int) := L.flatMap (pairC h a b)
theorem pairsC_snoc (h : RHarb) (a b : Nat) (L : List (List Fate)) (x : List Fate) : pairsC h a b (L ++ [x]) = pairsC h a b L ++ pairC h a b x := by simp [pairsC]
theorem pairsC_length {h : RHarb} (h3 : h.ships.length ≤ 3) (a b : Nat) (L : List (List Fate)) : (pairsC h a b L).length ≤ L.length * 9 := by
  unfold pairsC
  refine flatMap_le (Nat.le_refl _) fun x _ => ?_
  unfold pairC
  refine Nat.le_trans (flatMap_le (n := 3) (c := 3) (Nat.le_trans (goL_length h a x) h3) fun s _ => ?_) (by omega)
  unfold besideC
  rw [List.length_map]
  exact Nat.le_trans (goL_length h b x) h3

def besideE (h : RHarb) (b : Nat) (t : RTru) (u : Int) : List (Int × Int) := (t.by_[b]!).map fun s => (u, dayR h t.fleet s.toNat (h.letters[b]!).port)
def pairE (h : RHarb) (a b : Nat) (t : RTru) : List (Int × Int) := (t.by_[a]!).flatMap fun s => besideE h b t (dayR h t.fleet s.toNat (h.letters[a]!).port)
def befP (d : Int × Int) : Bool := befB d.1 d.2

theorem befRow_is (h : RHarb) (t : RTru) (a b x : Nat) : ∀ n, n ≤ (t.by_[b]!).length → befRow h t a b x n = cnt befP ((besideE h b t (dayR h t.fleet x (h.letters[a]!).port)).take n)
  | 0, _ => by simp [befRow, cnt]
  | n + 1, hn => by
    have ih := befRow_is h t a b x n (by omega)
    have hlt : n < (besideE h b t (dayR h t.fleet x (h.letters[a]!).port)).length := by unfold besideE; rw [List.length_map]; omega
    have e : (besideE h b t (dayR h t.fleet x (h.letters[a]!).port))[n] = (dayR h t.fleet x (h.letters[a]!).port, dayR h t.fleet ((t.by_[b]!)[n]!).toNat (h.letters[b]!).port) := by
      rw [getD_any (show n < (t.by_[b]!).length by omega)]
      simp only [besideE, List.getElem_map]
    rw [List.take_succ_eq_append_getElem hlt, cnt_snoc, e, ← ih]
    show befRow h t a b x n + (if befB (dayR h t.fleet x (h.letters[a]!).port) (dayR h t.fleet ((t.by_[b]!)[n]!).toNat (h.letters[b]!).port) = true then 1 else 0) = if befB (dayR h t.fleet x (h.letters[a]!).port) (dayR h t.fleet ((t.by_[b]!)[n]!).toNat (h.letters[b]!).port) = true then befRow h t a b x n + 1 else befRow h t a b x n
    split <;> omega
theorem befIn_is (h : RHarb) (t : RTru) (a b : Nat) : ∀ n, n ≤ (t.by_[a]!).length → befIn h t a b n = cnt befP (((t.by_[a]!).take n).flatMap fun s => besideE h b t (dayR h t.fleet s.toNat (h.letters[a]!).port)) ∧
    ((((t.by_[a]!).take n).flatMap fun s => besideE h b t (dayR h t.fleet s.toNat (h.letters[a]!).port)).length : Int) = (n : Int) * ((t.by_[b]!).length : Int)
  | 0, _ => by simp [befIn, cnt]
  | n + 1, hn => by
    obtain ⟨i1, i2⟩ := befIn_is h t a b n (by omega)
    have hb : (besideE h b t (dayR h t.fleet ((t.by_[a]!)[n]!).toNat (h.letters[a]!).port)).length = (t.by_[b]!).length := by unfold besideE; rw [List.length_map]
    rw [List.take_succ_eq_append_getElem (by omega), List.flatMap_append, List.flatMap_singleton, cnt_app, List.length_append, ← i1]
    have c1 : befIn h t a b (n + 1) = befIn h t a b n + befRow h t a b ((t.by_[a]!)[n]!).toNat (t.by_[b]!).length := rfl
    have g1 : (t.by_[a]!)[n] = (t.by_[a]!)[n]! := (getD_any (show n < (t.by_[a]!).length by omega)).symm
    rw [c1, g1, befRow_is h t a b _ _ (Nat.le_refl _), ← hb, List.take_length, hb]
    refine ⟨rfl, ?_⟩
    rw [Int.natCast_add, i2, Int.natCast_add, Int.add_mul]
    simp
theorem befTo_is (h : RHarb) (l : List RTru) (a b : Nat) : ∀ n, n ≤ l.length → befTo h l a b n = cnt befP ((l.take n).flatMap (pairE h a b)) ∧ pairsTo l a b n = (((l.take n).flatMap (pairE h a b)).length : Int)
  | 0, _ => by simp [befTo, pairsTo, cnt]
  | n + 1, hn => by
    obtain ⟨i1, i2⟩ := befTo_is h l a b n (by omega)
    obtain ⟨j1, j2⟩ := befIn_is h (l[n]!) a b ((l[n]!).by_[a]!).length (Nat.le_refl _)
    rw [List.take_length] at j1 j2
    have g1 : l[n] = l[n]! := (getD_any (show n < l.length by omega)).symm
    rw [List.take_succ_eq_append_getElem (by omega), List.flatMap_append, List.flatMap_singleton, cnt_app, List.length_append, ← i1, g1]
    have c1 : befTo h l a b (n + 1) = befTo h l a b n + befIn h (l[n]!) a b ((l[n]!).by_[a]!).length := rfl
    have c2 : pairsTo l a b (n + 1) = pairsTo l a b n + (((l[n]!).by_[a]!).length : Int) * (((l[n]!).by_[b]!).length : Int) := rfl
    rw [c1, c2, i2, j1, ← j2, Int.natCast_add]
    exact ⟨rfl, rfl⟩

theorem before_same {h : RHarb} (hh : HOk h) {L : List (List Fate)} (g : Same h L) {a b : Nat} (ha : a < h.letters.length) (hb : b < h.letters.length) :
    settledR (cnt (fun d : Int × Int => decide (d.1 < d.2)) (pairsC h a b L)) (pairsC h a b L).length = settledR (befTo h (truthsR h []) a b (truthsR h []).length) (pairsTo (truthsR h []) a b (truthsR h []).length) := by
  obtain ⟨e1, e2⟩ := befTo_is h (truthsR h []) a b _ (Nat.le_refl _)
  rw [e1, e2, List.take_length]
  have key : ∀ c : Bool, (∀ d ∈ pairsC h a b L, decide (d.1 < d.2) = c) ↔ ∀ d ∈ (truthsR h []).flatMap (pairE h a b), befP d = c := fun c => by
    have h1 : (∀ d ∈ (truthsR h []).flatMap (pairE h a b), befP d = c) ↔ ∀ t ∈ truthsR h [], ∀ d ∈ pairE h a b t, befP d = c := by
      simp only [List.mem_flatMap]
      exact ⟨fun q t ht d hd => q d ⟨t, ht, hd⟩, fun q d ⟨t, ht, hd⟩ => q t ht d hd⟩
    have h2 : (∀ d ∈ pairsC h a b L, decide (d.1 < d.2) = c) ↔ ∀ x ∈ L, ∀ d ∈ pairC h a b x, decide (d.1 < d.2) = c := by
      unfold pairsC
      simp only [List.mem_flatMap]
      exact ⟨fun q t ht d hd => q d ⟨t, ht, hd⟩, fun q d ⟨t, ht, hd⟩ => q t ht d hd⟩
    rw [h1, h2, same_mem g (fun t => ∀ d ∈ pairE h a b t, befP d = c)]
    have h3 : ∀ x ∈ L, (∀ d ∈ pairC h a b x, decide (d.1 < d.2) = c) ↔ ∀ d ∈ pairE h a b (truOf h [] x), befP d = c := fun x hx => by
      have t1 : (∀ d ∈ pairC h a b x, decide (d.1 < d.2) = c) ↔ ∀ s ∈ goL h a x, ∀ s' ∈ goL h b x, decide (dayC h a x s < dayC h b x s') = c := by
        unfold pairC besideC
        simp only [List.mem_flatMap, List.mem_map]
        exact ⟨fun q s hs s' hs' => q (_, _) ⟨s, hs, s', hs', rfl⟩, fun q d ⟨s, hs, s', hs', e⟩ => by rw [← e]; exact q s hs s' hs'⟩
      have t2 : (∀ d ∈ pairE h a b (truOf h [] x), befP d = c) ↔ ∀ s ∈ goL h a x, ∀ s' ∈ goL h b x, befB (dayR h x s.toNat (h.letters[a]!).port) (dayR h x s'.toNat (h.letters[b]!).port) = c := by
        unfold pairE besideE
        rw [true_by hh (g.fok x hx) ha, true_by hh (g.fok x hx) hb]
        simp only [List.mem_flatMap, List.mem_map]
        exact ⟨fun q s hs s' hs' => q (_, _) ⟨s, hs, s', hs', rfl⟩, fun q d ⟨s, hs, s', hs', e⟩ => by rw [← e]; exact q s hs s' hs'⟩
      rw [t1, t2]
      have : ∀ s ∈ goL h a x, ∀ s' ∈ goL h b x, decide (dayC h a x s < dayC h b x s') = befB (dayR h x s.toNat (h.letters[a]!).port) (dayR h x s'.toNat (h.letters[b]!).port) := fun s hs s' hs' => by
        have k1 := (goL_mem hs).2
        have k2 := (goL_mem hs').2
        have l1 := dayR_le hh (g.fok x hx) k1 (h.letters[a]!).port
        have l2 := dayR_le hh (g.fok x hx) k2 (h.letters[b]!).port
        unfold dayC dA befB untilB
        rw [dayN_R hh (g.fok x hx) k1, dayN_R hh (g.fok x hx) k2, Bool.eq_iff_iff]
        generalize dayR h x s.toNat (h.letters[a]!).port = u at *
        generalize dayR h x s'.toNat (h.letters[b]!).port = v at *
        simp only [Bool.and_eq_true, decide_eq_true_eq, Bool.not_eq_true', Bool.and_eq_false_iff, decide_eq_false_iff_not]
        by_cases q1 : u < 0 <;> by_cases q2 : v < 0 <;> simp only [q1, q2, if_true, if_false] <;> omega
      exact ⟨fun q s hs s' hs' => by rw [← this s hs s' hs']; exact q s hs s' hs', fun q s hs s' hs' => by rw [this s hs s' hs']; exact q s hs s' hs'⟩
    exact ⟨fun q x hx => (h3 x hx).1 (q x hx), fun q x hx => (h3 x hx).2 (q x hx)⟩
  exact settled_lists (key true) (key false)

theorem befE_known {h : RHarb} {one other : Int} : (knownR h (befE h one other)).2 = enterE h h.letters.length (if one = other then 2 else 0) [one, other] := by
  refine known_enter (fun q => ?_) (fun q => ?_)
  · unfold befE; simp only [indexE_bad q, if_neg q]; rw [if_neg (fun e => q e.1)]
  · unfold befE
    rw [q, indexE_good, indexE_good]
    simp only [List.any_cons, List.any_nil, Bool.or_false]
    cases offP 0 ((h.letters.length : Int) - 1) one <;> cases offP 0 ((h.letters.length : Int) - 1) other <;> simp
theorem beforeR_err {h : RHarb} {one other : Int} : (beforeR h one other).2 = enterE h h.letters.length (if one = other then 2 else 0) [one, other] := by
  rw [← befE_known]
  unfold beforeR
  split
  · rename_i q; exact q.symm
  · rfl
theorem beforeR_bad {h : RHarb} {one other : Int} (e : (beforeR h one other).2 ≠ 0) : beforeR h one other = (0, (beforeR h one other).2) := by
  unfold beforeR at e ⊢
  split at e
  · exact absurd rfl e
  · rename_i q; rw [if_neg q]
theorem beforeR_good {h : RHarb} {one other : Int} (e : (beforeR h one other).2 = 0) : beforeR h one other = (settledR (befTo h (truthsR h []) one.toNat other.toNat (truthsR h []).length) (pairsTo (truthsR h []) one.toNat other.toNat (truthsR h []).length), 0) := by
  unfold beforeR at e ⊢
  split at e
  · rename_i q
    obtain ⟨k1, k2, k3⟩ := known_zero q
    rw [if_pos q, k2]
  · rename_i q; exact absurd e q
end Go.Proofs.Ytnfmmhmfbipkjaa.Abs

/- Contracts: Before. -/
namespace Go.Proofs.Ytnfmmhmfbipkjaa.Abs
set_option linter.unusedSimpArgs false
set_option maxHeartbeats 4000000
set_option maxRecDepth 100000
open Go Go.RowKit Go.Proofs

theorem before_top (h : RHarb) (hs : hnamesFit h) (one other : Int) : PCall Try.prog 28 [harbA h, .int .i64 one, .int .i64 other] (.tuple [.int .i64 (beforeR h one other).1, .int .i64 (beforeR h one other).2]) := by
  intro m
  refine ACall.forget ?_
  have hen := fun w m => enter_c h hs h.letters.length w [one, other] (fun q => by have := (hok_check q).nl; omega) m
  have hE := beforeR_err (h := h) (one := one) (other := other)
  have hbad := beforeR_bad (h := h) (one := one) (other := other)
  have hgood := beforeR_good (h := h) (one := one) (other := other)
  have hhow := how_c
  generalize beforeR h one other = R at *
  simp only [harbA, harbL, ints, List.map_nil, List.map_cons] at hen ⊢
  (refine acall_intro (E := envC (modeAt [9, 12, 13] [11]) false []) (envCOk _ _ _) rfl Try.func28 rfl Try.call28 (by kernel_rfl) (by simp [Try.ntmps28]) ?_; simp only [Try.f28];  simp (maxSteps := 4000000) only [↓VP, VQ, ite_self, Nat.reduceEqDiff, Nat.reduceAdd, Nat.reduceSub, Nat.reduceMul, Nat.reduceLeDiff, Nat.reduceLT, Nat.reduceBEq, Int.reduceLE, Int.reduceLT, Int.reduceNeg, Int.reduceAdd, Int.reduceSub, Int.reduceToNat, ↓reduceIte, reduceCtorEq, ↓ixShip, ↓ixCall, ↓ixLet, ↓ixRep])
  repeat' (first | intro _ | refine And.intro ?_ ?_)
  · rw [if_pos (by assumption)] at hE
    refine ACall.told (hen 2 _) ?_
    rintro r m1 ⟨kk, ⟨hz, rfl⟩ | ⟨hz, _⟩⟩
    · rw [← hE] at hz
      have hb := hbad hz
      rw [← hE]
      generalize R.2 = e at *
      subst hb
      simp (maxSteps := 4000000) only [↓VP, VQ, ite_self, Nat.reduceEqDiff, Nat.reduceAdd, Nat.reduceSub, Nat.reduceMul, Nat.reduceLeDiff, Nat.reduceLT, Nat.reduceBEq, Int.reduceLE, Int.reduceLT, Int.reduceNeg, Int.reduceAdd, Int.reduceSub, Int.reduceToNat, ↓reduceIte, reduceCtorEq, ↓ixShip, ↓ixCall, ↓ixLet, ↓ixRep, hz]
      exact ⟨m, fun b x hx => kk b x (fun h => h) hx, rfl⟩
    · exact absurd (enter_zero hz).2.2.1 (by decide)
  rw [if_neg (by assumption)] at hE
  refine ACall.told (hen 0 _) ?_
  rintro r m1 ⟨kk, ⟨hz, rfl⟩ | ⟨hz, bm, hbm, rfl, hkn⟩⟩
  · rw [← hE] at hz
    have hb := hbad hz
    rw [← hE]
    generalize R.2 = e at *
    subst hb
    simp (maxSteps := 4000000) only [↓VP, VQ, ite_self, Nat.reduceEqDiff, Nat.reduceAdd, Nat.reduceSub, Nat.reduceMul, Nat.reduceLeDiff, Nat.reduceLT, Nat.reduceBEq, Int.reduceLE, Int.reduceLT, Int.reduceNeg, Int.reduceAdd, Int.reduceSub, Int.reduceToNat, ↓reduceIte, reduceCtorEq, ↓ixShip, ↓ixCall, ↓ixLet, ↓ixRep, hz]
    exact ⟨m, fun b x hx => kk b x (fun h => h) hx, rfl⟩
  · obtain ⟨z1, z2, z3, z4⟩ := enter_zero hz
    have hle := z2 one (by simp)
    have hle2 := z2 other (by simp)
    have hh := hok_check z1
    have h3 := hh.n
    have h4 := hh.nl
    have hR := hgood (by rw [hE]; exact hz)
    have hkl : one.toNat < h.letters.length := by omega
    have hkl2 : other.toNat < h.letters.length := by omega
    have hlk : one = ((one.toNat : Nat) : Int) := by omega
    have hlk2 : other = ((other.toNat : Nat) : Int) := by omega
    generalize one.toNat = k at *
    generalize other.toNat = k2 at *
    subst hlk
    subst hlk2
    have htr := truthsF_c h 0 bm
    have hbn : ∃ y, m1 bm = some y := by obtain ⟨ls, k1, k2⟩ := hkn; exact ⟨_, k2⟩
    obtain ⟨yb, hbn⟩ := hbn
    have ht1 := fun (l : Nat) (S : Nat → Prop) (J : List (List Fate) → Mem → Prop) (F : Mem → Prop) (hy : YTok h 0 bm l S J F) (m : Mem) => truths1_c h hh 0 (by decide) bm hy m
    have hlist := fun s (q : s < 2 ^ 62) => list_c s h.ships.length q (by omega)
    have hday := fun (k : Nat) (x : List Fate) (hx : FOk h x) (s : Nat) (q : s < h.ships.length) => day_c h hh 0 bm (fun i => x[i]!) s (h.letters[k]!).port q (hx.late _ (by rw [hx.n]; exact q))
    have hp : (2 : Nat) ^ h.ships.length ≤ 2 ^ 3 := Nat.pow_le_pow_right (by decide) h3
    simp only [lookedL, Int.natCast_zero, ints, fleetA] at htr hlist hday ⊢
    subst hR
    clear hen hbad hgood
    simp (maxSteps := 4000000) only [↓VP, VQ, ite_self, Nat.reduceEqDiff, Nat.reduceAdd, Nat.reduceSub, Nat.reduceMul, Nat.reduceLeDiff, Nat.reduceLT, Nat.reduceBEq, Int.reduceLE, Int.reduceLT, Int.reduceNeg, Int.reduceAdd, Int.reduceSub, Int.reduceToNat, ↓reduceIte, reduceCtorEq, ↓ixShip, ↓ixCall, ↓ixLet, ↓ixRep]
    intro b11 hb11
    have n11 := ne_of_some hbn hb11
    (refine ACall.pure (htr) ?_; try simp (maxSteps := 4000000) only [↓VP, VQ, ite_self, Nat.reduceEqDiff, Nat.reduceAdd, Nat.reduceSub, Nat.reduceMul, Nat.reduceLeDiff, Nat.reduceLT, Nat.reduceBEq, Int.reduceLE, Int.reduceLT, Int.reduceNeg, Int.reduceAdd, Int.reduceSub, Int.reduceToNat, ↓reduceIte, reduceCtorEq, ↓ixShip, ↓ixCall, ↓ixLet, ↓ixRep])
    refine ARange.freeze 9 ?_
    simp (maxSteps := 4000000) only [↓VP, VQ, ite_self, Nat.reduceEqDiff, Nat.reduceAdd, Nat.reduceSub, Nat.reduceMul, Nat.reduceLeDiff, Nat.reduceLT, Nat.reduceBEq, Int.reduceLE, Int.reduceLT, Int.reduceNeg, Int.reduceAdd, Int.reduceSub, Int.reduceToNat, ↓reduceIte, reduceCtorEq, ↓ixShip, ↓ixCall, ↓ixLet, ↓ixRep]
    refine arange rfl (f := 133) (first := []) (caps := [.eptr [.eptr (lookedL h 0 bm)]]) (by simp (maxSteps := 4000000) only [↓VP, VQ, ite_self, Nat.reduceEqDiff, Nat.reduceAdd, Nat.reduceSub, Nat.reduceMul, Nat.reduceLeDiff, Nat.reduceLT, Nat.reduceBEq, Int.reduceLE, Int.reduceLT, Int.reduceNeg, Int.reduceAdd, Int.reduceSub, Int.reduceToNat, ↓reduceIte, reduceCtorEq, ↓ixShip, ↓ixCall, ↓ixLet, ↓ixRep, lookedL, Int.natCast_zero]) ?_
    intro l hl
    have hl11 : l ≠ b11 := by rintro rfl; simp [upd] at hl
    have hl0 : m1 l = none := by simpa [upd, hl11] using hl
    have nl := ne_of_some hbn hl0
    generalize hR : LoopA.mk _ _ _ _ _ = R
    have hyok : YTok h 0 bm l (fun k => k = l ∨ k = b11) (fun pre m2 => m2 l = some (.loop .ready none R) ∧ m2 b11 = some (.cells [.int .i64 (cnt (fun d : Int × Int => decide (d.1 < d.2)) (pairsC h k k2 pre)), .int .i64 ((pairsC h k k2 pre).length : Nat)])) (fun _ => False) := by
      refine ⟨fun pre x m2 hn hx hin ok hk hJ => ?_, fun pre m2 m3 hJ hs => ?_⟩
      · obtain ⟨j3, j11⟩ := hJ
        subst hR
        refine ayield (E := envC (modeAt [9, 12, 13] [11]) true []) (envCOk _ _ _) rfl j3 rfl (by rfl) (by rfl) (by rfl) ?_
        have hfl := nL_length (loadK h 0 x h.reports.length) 4
        have hff := nL_flat (loadK h 0 x h.reports.length) 4
        have hdr := nL_drop (f := loadK h 0 x h.reports.length) (show k < 4 by omega)
        have hdr2 := nL_drop (f := loadK h 0 x h.reports.length) (show k2 < 4 by omega)
        have hat := load_at (h := h) (x := x) hkl
        have hat2 := load_at (h := h) (x := x) hkl2
        have hd4 : List.drop 4 [AV.int .i64 0, AV.int .i64 0, AV.int .i64 0, AV.int .i64 0] = [] := rfl
        have hd6 : List.drop 6 [AV.int .i64 0, AV.int .i64 0, AV.int .i64 0, AV.int .i64 0, AV.int .i64 0, AV.int .i64 0] = [] := rfl
        have hgl := fleetL_length fun i => x[i]!
        have hgf := fleetL_flat fun i => x[i]!
        have hgt := fleetL_take fun i => x[i]!
        have hv1 := setOf_lt (loadB h (fun i => x[i]!) k 0 h.reports.length) h.ships.length
        have hv2 := setOf_lt (loadB h (fun i => x[i]!) k2 0 h.reports.length) h.ships.length
        have hlst := hlist (setOf (loadB h (fun i => x[i]!) k 0 h.reports.length) h.ships.length) (by omega)
        have hlst2 := hlist (setOf (loadB h (fun i => x[i]!) k2 0 h.reports.length) h.ships.length) (by omega)
        change PCall _ _ _ (.slice 1 ((goL h k x).map (AV.int .i64))) at hlst
        change PCall _ _ _ (.slice 1 ((goL h k2 x).map (AV.int .i64))) at hlst2
        have hgn := goL_length h k x
        have hgn2 := goL_length h k2 x
        rw [hat] at hdr
        rw [hat2] at hdr2
        simp (maxSteps := 4000000) only [↓VP, VQ, ite_self, Nat.reduceEqDiff, Nat.reduceAdd, Nat.reduceSub, Nat.reduceMul, Nat.reduceLeDiff, Nat.reduceLT, Nat.reduceBEq, Int.reduceLE, Int.reduceLT, Int.reduceNeg, Int.reduceAdd, Int.reduceSub, Int.reduceToNat, ↓reduceIte, reduceCtorEq, ↓ixShip, ↓ixCall, ↓ixLet, ↓ixRep, j3, loadsV, keyA, fleetA, hfl, hff, hd4, hgl, hgf, hd6]
        generalize hmB : upd m2 l (some _) = mB
        have hbl := congrFun hmB l
        rw [upd_same] at hbl
        have hbl := hbl.symm
        have hB : ∀ k, k ≠ l → mB k = m2 k := fun k hk => by rw [← hmB, upd_ne _ _ hk]
        (refine adraw (by first | exact envOk _ | exact envCOk _ _ _) mixed [⟨false, false, 0⟩, ⟨false, false, 0⟩, ⟨false, false, 0⟩, ⟨false, false, 0⟩, ⟨false, false, 0⟩, ⟨false, false, 0⟩, ⟨false, false, 0⟩, ⟨false, false, 0⟩, ⟨false, false, 0⟩] (by kernel_rfl) ?_; show vcOpsD _ _ _ (_ :: _) _ _)
        simp (maxSteps := 4000000) only [↓VP, VQ, ite_self, Nat.reduceEqDiff, Nat.reduceAdd, Nat.reduceSub, Nat.reduceMul, Nat.reduceLeDiff, Nat.reduceLT, Nat.reduceBEq, Int.reduceLE, Int.reduceLT, Int.reduceNeg, Int.reduceAdd, Int.reduceSub, Int.reduceToNat, ↓reduceIte, reduceCtorEq, ↓ixShip, ↓ixCall, ↓ixLet, ↓ixRep, hdr, hfl, hd4]
        repeat' (first | intro _ | refine And.intro ?_ ?_)
        all_goals try omega
        refine VPure.of hlst ?_
        simp (maxSteps := 4000000) only [↓VP, VQ, ite_self, Nat.reduceEqDiff, Nat.reduceAdd, Nat.reduceSub, Nat.reduceMul, Nat.reduceLeDiff, Nat.reduceLT, Nat.reduceBEq, Int.reduceLE, Int.reduceLT, Int.reduceNeg, Int.reduceAdd, Int.reduceSub, Int.reduceToNat, ↓reduceIte, reduceCtorEq, ↓ixShip, ↓ixCall, ↓ixLet, ↓ixRep]
        have jB : mB b11 = some (.cells [.int .i64 (cnt (fun d : Int × Int => decide (d.1 < d.2)) (pairsC h k k2 pre)), .int .i64 ((pairsC h k k2 pre).length : Nat)]) := by rw [hB _ hl11.symm]; exact j11
        have hDn := pairsC_length h3 k k2 pre
        have hsn := pairsC_snoc h k k2 pre x
        -- the outer loop
        refine aloop (envCOk _ _ _) (fun i : Nat => ⟨[(3, .v (.eptr [.int .i64 h.ports, .int .i64 h.lost, .slice 5 (h.ships.map shipA), .slice 3 (h.letters.map letA), .slice 4 (h.reports.map repA)])), (4, .v (.eptr [.int .i64 k])), (5, .v (.eptr [.int .i64 k2])), (9, .v (.eptr [.eptr (lookedL h 0 bm)])), (11, .v (.ptr b11 0)), (12, .loc 12 0), (13, .loc 13 0),
            (47, .v (.slice 1 ((goL h k x).map (AV.int .i64)))), (48, .v (.int .i64 (goL h k x).length)), (49, .v (.int .i64 i))], [], [(12, fleetL fun i => x[i]!), (13, nL (loadK h 0 x h.reports.length) 4)],
            upd mB b11 (some (.cells [.int .i64 (cnt (fun d : Int × Int => decide (d.1 < d.2)) (pairsC h k k2 pre ++ ((goL h k x).take i).flatMap fun s => besideC h k2 x (dayC h k x s))), .int .i64 ((pairsC h k k2 pre ++ ((goL h k x).take i).flatMap fun s => besideC h k2 x (dayC h k x s)).length : Nat)]))⟩)
          (fun i => i ≤ (goL h k x).length) (fun i => (goL h k x).length - i) 0 (fun _ => rfl) (by simp) (by (simp only [Fits, fitsV, fitsO, fitsL, ↓upd, ↓lookV, ↓lookO, ↓lookL, Nat.reduceEqDiff, ↓reduceIte, ints, and_true, true_and, Option.some.injEq]); rw [List.take_zero, List.flatMap_nil, List.append_nil, ← jB, upd_self]; simp [lookedL, hd6, hd4, SV.av]) ?_
        intro i hi
        have htk : i < (goL h k x).length → (((goL h k x).take (i + 1)).flatMap fun s => besideC h k2 x (dayC h k x s)) = (((goL h k x).take i).flatMap fun s => besideC h k2 x (dayC h k x s)) ++ besideC h k2 x (dayC h k x ((goL h k x)[i]!)) := fun q => by
          rw [List.take_succ_eq_append_getElem q, List.flatMap_append, List.flatMap_singleton, getD_any q]
        have hDi : (((goL h k x).take i).flatMap fun s => besideC h k2 x (dayC h k x s)).length ≤ 3 * 3 := flatMap_le (by rw [List.length_take]; omega) fun s _ => by unfold besideC; rw [List.length_map]; omega
        simp only [lookedL, Int.natCast_zero]
        simp (maxSteps := 4000000) only [↓VP, VQ, ite_self, Nat.reduceEqDiff, Nat.reduceAdd, Nat.reduceSub, Nat.reduceMul, Nat.reduceLeDiff, Nat.reduceLT, Nat.reduceBEq, Int.reduceLE, Int.reduceLT, Int.reduceNeg, Int.reduceAdd, Int.reduceSub, Int.reduceToNat, ↓reduceIte, reduceCtorEq, ↓ixShip, ↓ixCall, ↓ixLet, ↓ixRep, ↓ixZ]
        repeat' (first | intro _ | refine And.intro ?_ ?_)
        all_goals try omega
        · have hil : i < (goL h k x).length := by omega
          have hgm := goL_mem (h := h) (k := k) (x := x) (s := (goL h k x)[i]!) (by rw [getD_any hil]; exact List.getElem_mem hil)
          have hdy := hday k x hx ((goL h k x)[i]!).toNat hgm.2
          change PCall _ _ _ (.int .i64 (dayC h k x ((goL h k x)[i]!))) at hdy
          rw [Int.toNat_of_nonneg hgm.1] at hdy
          have htk := htk hil
          generalize hU : dayC h k x ((goL h k x)[i]!) = U at *
          (refine adraw (by first | exact envOk _ | exact envCOk _ _ _) mixed [⟨false, false, 0⟩, ⟨false, false, 0⟩, ⟨false, false, 0⟩, ⟨false, false, 0⟩, ⟨false, false, 0⟩, ⟨false, false, 0⟩, ⟨false, false, 0⟩, ⟨false, false, 0⟩, ⟨false, false, 0⟩, ⟨false, false, 0⟩, ⟨false, false, 0⟩] (by kernel_rfl) ?_; show vcOpsD _ _ _ (_ :: _) _ _)
          simp (maxSteps := 4000000) only [↓VP, VQ, ite_self, Nat.reduceEqDiff, Nat.reduceAdd, Nat.reduceSub, Nat.reduceMul, Nat.reduceLeDiff, Nat.reduceLT, Nat.reduceBEq, Int.reduceLE, Int.reduceLT, Int.reduceNeg, Int.reduceAdd, Int.reduceSub, Int.reduceToNat, ↓reduceIte, reduceCtorEq, ↓ixShip, ↓ixCall, ↓ixLet, ↓ixRep, hgl, hgt]
          repeat' (first | intro _ | refine And.intro ?_ ?_)
          all_goals try omega
          refine VPure.of hdy ?_
          simp (maxSteps := 4000000) only [↓VP, VQ, ite_self, Nat.reduceEqDiff, Nat.reduceAdd, Nat.reduceSub, Nat.reduceMul, Nat.reduceLeDiff, Nat.reduceLT, Nat.reduceBEq, Int.reduceLE, Int.reduceLT, Int.reduceNeg, Int.reduceAdd, Int.reduceSub, Int.reduceToNat, ↓reduceIte, reduceCtorEq, ↓ixShip, ↓ixCall, ↓ixLet, ↓ixRep]
          (refine adraw (by first | exact envOk _ | exact envCOk _ _ _) mixed [⟨false, false, 0⟩, ⟨false, false, 0⟩, ⟨false, false, 0⟩, ⟨false, false, 0⟩, ⟨false, false, 0⟩, ⟨false, false, 0⟩, ⟨false, false, 0⟩, ⟨false, false, 0⟩, ⟨false, false, 0⟩] (by kernel_rfl) ?_; show vcOpsD _ _ _ (_ :: _) _ _)
          simp (maxSteps := 4000000) only [↓VP, VQ, ite_self, Nat.reduceEqDiff, Nat.reduceAdd, Nat.reduceSub, Nat.reduceMul, Nat.reduceLeDiff, Nat.reduceLT, Nat.reduceBEq, Int.reduceLE, Int.reduceLT, Int.reduceNeg, Int.reduceAdd, Int.reduceSub, Int.reduceToNat, ↓reduceIte, reduceCtorEq, ↓ixShip, ↓ixCall, ↓ixLet, ↓ixRep, hdr2, hfl, hd4]
          repeat' (first | intro _ | refine And.intro ?_ ?_)
          all_goals try omega
          refine VPure.of hlst2 ?_
          simp (maxSteps := 4000000) only [↓VP, VQ, ite_self, Nat.reduceEqDiff, Nat.reduceAdd, Nat.reduceSub, Nat.reduceMul, Nat.reduceLeDiff, Nat.reduceLT, Nat.reduceBEq, Int.reduceLE, Int.reduceLT, Int.reduceNeg, Int.reduceAdd, Int.reduceSub, Int.reduceToNat, ↓reduceIte, reduceCtorEq, ↓ixShip, ↓ixCall, ↓ixLet, ↓ixRep]
          have hrl : (besideC h k2 x U).length = (goL h k2 x).length := by unfold besideC; rw [List.length_map]
          generalize hD0 : pairsC h k k2 pre ++ ((goL h k x).take i).flatMap (fun s => besideC h k2 x (dayC h k x s)) = D0 at *
          have hD0n : D0.length ≤ pre.length * 9 + 9 := by rw [← hD0, List.length_append]; omega
          refine aloop (envCOk _ _ _) (fun j : Nat => ⟨[(3, .v (.eptr [.int .i64 h.ports, .int .i64 h.lost, .slice 5 (h.ships.map shipA), .slice 3 (h.letters.map letA), .slice 4 (h.reports.map repA)])), (4, .v (.eptr [.int .i64 k])), (5, .v (.eptr [.int .i64 k2])), (9, .v (.eptr [.eptr (lookedL h 0 bm)])), (11, .v (.ptr b11 0)), (12, .loc 12 0), (13, .loc 13 0), (16, .v (.int .i64 U)),
              (47, .v (.slice 1 ((goL h k x).map (AV.int .i64)))), (48, .v (.int .i64 (goL h k x).length)), (49, .v (.int .i64 i)), (69, .v (.slice 1 ((goL h k2 x).map (AV.int .i64)))), (70, .v (.int .i64 (goL h k2 x).length)), (71, .v (.int .i64 j))], [], [(12, fleetL fun i => x[i]!), (13, nL (loadK h 0 x h.reports.length) 4)],
              upd mB b11 (some (.cells [.int .i64 (cnt (fun d : Int × Int => decide (d.1 < d.2)) (D0 ++ (besideC h k2 x U).take j)), .int .i64 ((D0 ++ (besideC h k2 x U).take j).length : Nat)]))⟩)
            (fun j => j ≤ (goL h k2 x).length) (fun j => (goL h k2 x).length - j) 0 (fun _ => rfl) (by simp) (by (simp only [Fits, fitsV, fitsO, fitsL, ↓upd, ↓lookV, ↓lookO, ↓lookL, Nat.reduceEqDiff, ↓reduceIte, ints, and_true, true_and, Option.some.injEq]); rw [List.take_zero, List.append_nil]; simp [lookedL, SV.av]) ?_
          intro j hj
          have hadd := fun m is hm => add_c b11 (cnt (fun d : Int × Int => decide (d.1 < d.2)) (D0 ++ (besideC h k2 x U).take j)) ((D0 ++ (besideC h k2 x U).take j).length : Nat) is (by have := cnt_le (fun d : Int × Int => decide (d.1 < d.2)) (D0 ++ (besideC h k2 x U).take j); simp only [List.length_append, List.length_take] at *; omega) (by simp only [List.length_append, List.length_take]; omega) m hm
          have hcs := cnt_snoc (fun d : Int × Int => decide (d.1 < d.2)) (D0 ++ (besideC h k2 x U).take j) (U, dayC h k2 x ((goL h k2 x)[j]!))
          have htj : j < (goL h k2 x).length → (besideC h k2 x U).take (j + 1) = (besideC h k2 x U).take j ++ [(U, dayC h k2 x ((goL h k2 x)[j]!))] := fun q => by
            rw [List.take_succ_eq_append_getElem (by rw [hrl]; exact q), getD_any q]
            simp only [besideC, List.getElem_map]
          generalize hD : D0 ++ (besideC h k2 x U).take j = D at *
          simp only [lookedL, Int.natCast_zero]
          simp (maxSteps := 4000000) only [↓VP, VQ, ite_self, Nat.reduceEqDiff, Nat.reduceAdd, Nat.reduceSub, Nat.reduceMul, Nat.reduceLeDiff, Nat.reduceLT, Nat.reduceBEq, Int.reduceLE, Int.reduceLT, Int.reduceNeg, Int.reduceAdd, Int.reduceSub, Int.reduceToNat, ↓reduceIte, reduceCtorEq, ↓ixShip, ↓ixCall, ↓ixLet, ↓ixRep, ↓ixZ]
          repeat' (first | intro _ | refine And.intro ?_ ?_)
          all_goals try omega
          · have hjl : j < (goL h k2 x).length := by omega
            have hgm2 := goL_mem (h := h) (k := k2) (x := x) (s := (goL h k2 x)[j]!) (by rw [getD_any hjl]; exact List.getElem_mem hjl)
            have hdy2 := hday k2 x hx ((goL h k2 x)[j]!).toNat hgm2.2
            change PCall _ _ _ (.int .i64 (dayC h k2 x ((goL h k2 x)[j]!))) at hdy2
            rw [Int.toNat_of_nonneg hgm2.1] at hdy2
            (refine adraw (by first | exact envOk _ | exact envCOk _ _ _) mixed [⟨true, false, 0⟩, ⟨false, false, 0⟩, ⟨false, false, 0⟩, ⟨true, false, 0⟩, ⟨true, false, 0⟩, ⟨true, false, 0⟩, ⟨true, false, 0⟩, ⟨true, false, 0⟩, ⟨true, false, 0⟩, ⟨true, false, 0⟩, ⟨false, false, 0⟩, ⟨false, false, 0⟩, ⟨false, false, 2⟩] (by kernel_rfl) ?_; show vcOpsD _ _ _ (_ :: _) _ _)
            simp (maxSteps := 4000000) only [↓VP, VQ, ite_self, Nat.reduceEqDiff, Nat.reduceAdd, Nat.reduceSub, Nat.reduceMul, Nat.reduceLeDiff, Nat.reduceLT, Nat.reduceBEq, Int.reduceLE, Int.reduceLT, Int.reduceNeg, Int.reduceAdd, Int.reduceSub, Int.reduceToNat, ↓reduceIte, reduceCtorEq, ↓ixShip, ↓ixCall, ↓ixLet, ↓ixRep, hgl, hgt]
            repeat' (first | intro _ | refine And.intro ?_ ?_)
            all_goals try omega
            refine VPure.of hdy2 ?_
            simp (maxSteps := 4000000) only [↓VP, VQ, ite_self, Nat.reduceEqDiff, Nat.reduceAdd, Nat.reduceSub, Nat.reduceMul, Nat.reduceLeDiff, Nat.reduceLT, Nat.reduceBEq, Int.reduceLE, Int.reduceLT, Int.reduceNeg, Int.reduceAdd, Int.reduceSub, Int.reduceToNat, ↓reduceIte, reduceCtorEq, ↓ixShip, ↓ixCall, ↓ixLet, ↓ixRep]
            repeat' (first | intro _ | refine And.intro ?_ ?_)
            refine ACall.told (hadd _ _ (upd_same _ _ _)) ?_
            rintro r m4 rfl
            simp (maxSteps := 4000000) only [↓VP, VQ, ite_self, Nat.reduceEqDiff, Nat.reduceAdd, Nat.reduceSub, Nat.reduceMul, Nat.reduceLeDiff, Nat.reduceLT, Nat.reduceBEq, Int.reduceLE, Int.reduceLT, Int.reduceNeg, Int.reduceAdd, Int.reduceSub, Int.reduceToNat, ↓reduceIte, reduceCtorEq, ↓ixShip, ↓ixCall, ↓ixLet, ↓ixRep]
            repeat' (first | intro _ | refine And.intro ?_ ?_)
            all_goals try omega
            refine ⟨j + 1, by dsimp only; omega, by dsimp only; omega, ?_⟩
            (simp only [Fits, fitsV, fitsO, fitsL, ↓upd, ↓lookV, ↓lookO, ↓lookL, Nat.reduceEqDiff, ↓reduceIte, ints, and_true, true_and, Option.some.injEq])
            rw [upd_upd, htj hjl, ← List.append_assoc, hD, hcs]
            simp only [decide_eq_true_eq, List.length_append, List.length_cons, List.length_nil]
            exact ⟨rfl, rfl⟩
          · have hjl : j = (goL h k2 x).length := by omega
            have hDe : D = pairsC h k k2 pre ++ (((goL h k x).take (i + 1)).flatMap fun s => besideC h k2 x (dayC h k x s)) := by rw [← hD, hjl, ← hrl, List.take_length, htk, ← List.append_assoc, hD0]
            subst hDe
            refine ⟨i + 1, by dsimp only; omega, by dsimp only; omega, ?_⟩
            (simp only [Fits, fitsV, fitsO, fitsL, ↓upd, ↓lookV, ↓lookO, ↓lookL, Nat.reduceEqDiff, ↓reduceIte, ints, and_true, true_and, Option.some.injEq])
            simp [lookedL]
        · have hil : i = (goL h k x).length := by omega
          have hDe : (pairsC h k k2 pre ++ ((goL h k x).take i).flatMap fun s => besideC h k2 x (dayC h k x s)) = pairsC h k k2 (pre ++ [x]) := by rw [hsn, hil, List.take_length]; rfl
          rw [hDe]
          simp (maxSteps := 4000000) only [↓VP, VQ, ite_self, Nat.reduceEqDiff, Nat.reduceAdd, Nat.reduceSub, Nat.reduceMul, Nat.reduceLeDiff, Nat.reduceLT, Nat.reduceBEq, Int.reduceLE, Int.reduceLT, Int.reduceNeg, Int.reduceAdd, Int.reduceSub, Int.reduceToNat, ↓reduceIte, reduceCtorEq, ↓ixShip, ↓ixCall, ↓ixLet, ↓ixRep, hl11, hl11.symm, hbl]
          refine ⟨⟨fun k y hq hy => ?_⟩, .inl ?_⟩
          · simp only [not_or] at hq
            rw [upd_ne _ _ hq.1, upd_ne _ _ hq.2, hB _ hq.1]; exact hy
          · trivial
      · obtain ⟨j3, j11⟩ := hJ
        exact ⟨by rw [hs l (.inl rfl)]; exact j3, by rw [hs b11 (.inr rfl)]; exact j11⟩
    have hdom : ∀ k y, m1 k = some y → k ≠ l ∧ k ≠ b11 := fun k y hy => ⟨ne_of_some hy hl0, ne_of_some hy hb11⟩
    refine ACall.mono (ht1 l _ _ _ hyok _ ?_ ?_ ?_ ?_) ?_ <;> (try dsimp only)
    · obtain ⟨ls, k1, k2⟩ := hkn
      exact ⟨ls, k1, by simp [upd, nl, n11]; exact k2⟩
    · rintro k (rfl | rfl)
      · simp [upd]
      · simp [upd, hl11.symm]
    · rintro (e | e)
      · exact nl e
      · exact n11 e
    · refine ⟨upd_same _ _ _, ?_⟩
      simp [upd, hl11.symm, pairsC, cnt]
    · rintro r m' ⟨k1, k2', k3⟩
      have kk2 : ∀ k y, m k = some y → m' k = some y ∧ k ≠ l := by
        intro k y hy
        have hy1 := kk k y (fun h => h) hy
        obtain ⟨a1, a2⟩ := hdom k y hy1
        have a5 : k ≠ bm := ne_of_some hy hbm
        exact ⟨k1 k y (by rintro ((e | e) | e); exact a1 e; exact a2 e; exact a5 e) (by simp [upd, a1, a2]; exact hy1), a1⟩
      clear ht1 hyok
      rcases k3 with ⟨L, ⟨j3, j11⟩, g⟩ | hF
      · have s1 := before_same hh (given_same hh g) hkl hkl2
        simp (maxSteps := 4000000) only [↓VP, VQ, ite_self, Nat.reduceEqDiff, Nat.reduceAdd, Nat.reduceSub, Nat.reduceMul, Nat.reduceLeDiff, Nat.reduceLT, Nat.reduceBEq, Int.reduceLE, Int.reduceLT, Int.reduceNeg, Int.reduceAdd, Int.reduceSub, Int.reduceToNat, ↓reduceIte, reduceCtorEq, ↓ixShip, ↓ixCall, ↓ixLet, ↓ixRep, j3, j11, hl11, hl11.symm]
        repeat' (first | intro _ | refine And.intro ?_ ?_)
        refine ACall.pure (hhow _ _) ?_
        rw [s1]
        simp (maxSteps := 4000000) only [↓VP, VQ, ite_self, Nat.reduceEqDiff, Nat.reduceAdd, Nat.reduceSub, Nat.reduceMul, Nat.reduceLeDiff, Nat.reduceLT, Nat.reduceBEq, Int.reduceLE, Int.reduceLT, Int.reduceNeg, Int.reduceAdd, Int.reduceSub, Int.reduceToNat, ↓reduceIte, reduceCtorEq, ↓ixShip, ↓ixCall, ↓ixLet, ↓ixRep]
        refine ⟨m, fun k y hy => ?_, rfl⟩
        obtain ⟨e1, e2⟩ := kk2 k y hy
        simp only [if_neg e2]
        exact e1
      · exact hF.elim
end Go.Proofs.Ytnfmmhmfbipkjaa.Abs
