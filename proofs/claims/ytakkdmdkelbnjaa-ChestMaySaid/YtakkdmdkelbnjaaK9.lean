/- Lemmas for the statements of this seat (K9): they hold without conditions beyond those that each one states. -/
import Derived.Test.YtakkdmdkelbnjaaK4
import Derived.Laws.StructEq
import Derived.Test.YtakkdmdkelbnjaaK8
/- Laws: '==' of copies and of views. -/
namespace Go.Proofs.Ytakkdmdkelbnjaa.Abs
set_option linter.unusedSimpArgs false
open Go Go.RowKit Go.Proofs

theorem part3 {cs : Array Value} {off : Nat} {v : Value} (h : cs[off]? = some v) (w : World) : (part 3 cs off).run Try.prog w = .ok v w := by
  unfold part
  rw [Sem.run_bind, tyok_3.agg w]
  simp [TyI.agg, h]

theorem eqInt3 (d : Nat) (a b : Int) (w : World) : (Op.equalIn (d + 1) 3 (.int .i64 a) (.int .i64 b)).run Try.prog w = .ok (decide (a = b)) w := by
  rw [run_equalIn_int w d 3 .i64 .i64 a b (by kernel_rfl)]
  by_cases h : a = b <;> simp [h]

theorem eqStep {d : Nat} {xs ys : Array Value} {f : Field} {fs : List Field} {a b : Int} {R : Bool} {w : World} (hn : f.name ≠ "_") (ht : f.type = 3) (hx : xs[f.offset]? = some (.int .i64 a)) (hy : ys[f.offset]? = some (.int .i64 b))
    (hr : (Op.eqFields (d + 1) xs ys fs).run Try.prog w = .ok R w) : (Op.eqFields (d + 1) xs ys (f :: fs)).run Try.prog w = .ok (decide (a = b) && R) w := by
  unfold Op.eqFields
  rw [if_pos hn, ht, Sem.run_bind, part3 hx, Result.andThen_ok, Sem.run_bind, part3 hy, Result.andThen_ok, Sem.run_bind, eqInt3, Result.andThen_ok]
  by_cases h : a = b
  · simp [h, hr]
  · simp [h]

theorem eqFlat51 (a b c d a' b' c' d' : Int) : EqFlat Try.prog 51 [.int .i64 a, .int .i64 b, .int .i64 c, .int .i64 d] [.int .i64 a', .int .i64 b', .int .i64 c', .int .i64 d'] (decide (a = a') && (decide (b = b') && (decide (c = c') && (decide (d = d') && true)))) := by
  intro vs vs' com w x y h h'
  obtain ⟨v1, vs, rfl, r1, h⟩ := Reps.cons_inv h
  obtain ⟨v2, vs, rfl, r2, h⟩ := Reps.cons_inv h
  obtain ⟨v3, vs, rfl, r3, h⟩ := Reps.cons_inv h
  obtain ⟨v4, vs, rfl, r4, h⟩ := Reps.cons_inv h
  obtain rfl := Reps.nil_inv h
  obtain ⟨u1, us, rfl, s1, h'⟩ := Reps.cons_inv h'
  obtain ⟨u2, us, rfl, s2, h'⟩ := Reps.cons_inv h'
  obtain ⟨u3, us, rfl, s3, h'⟩ := Reps.cons_inv h'
  obtain ⟨u4, us, rfl, s4, h'⟩ := Reps.cons_inv h'
  obtain rfl := Reps.nil_inv h'
  obtain rfl := rep_int r1; obtain rfl := rep_int r2; obtain rfl := rep_int r3; obtain rfl := rep_int r4
  obtain rfl := rep_int s1; obtain rfl := rep_int s2; obtain rfl := rep_int s3; obtain rfl := rep_int s4
  have hg : Try.prog.eqGuardType Try.prog.depth 51 = false := by kernel_rfl
  have hu : Try.prog.underlying 51 = some (.struct (Try.prog.fieldsOf 51)) := by kernel_rfl
  have hs : Try.prog.stoodInHeld 51 = false := by kernel_rfl
  have key : (Op.equalIn 10000 51 (.agg #[.int .i64 a, .int .i64 b, .int .i64 c, .int .i64 d]) (.agg #[.int .i64 a', .int .i64 b', .int .i64 c', .int .i64 d'])).run Try.prog w =
      .ok (decide (a = a') && (decide (b = b') && (decide (c = c') && (decide (d = d') && true)))) w := by
    rw [run_equalIn_agg w 9999 51 _ _ hu hs]
    simp only [Program.fieldsOf, Try.underlying51]
    exact eqStep (by decide) rfl rfl rfl (eqStep (by decide) rfl rfl rfl (eqStep (by decide) rfl rfl rfl (eqStep (by decide) rfl rfl rfl (by simp [Op.eqFields]))))
  constructor
  · rw [Sem.run_bind, run_eqGuard_agg w .eql 51 x y _ _ hg, Result.andThen_ok, run_eql_struct, key]; rfl
  · rw [Sem.run_bind, run_eqGuard_agg w .neq 51 x y _ _ hg, Result.andThen_ok, run_neq_struct, key]; rfl

theorem eqFlat88 (a b c a' b' c' : Int) : EqFlat Try.prog 88 [.int .i64 a, .int .i64 b, .int .i64 c] [.int .i64 a', .int .i64 b', .int .i64 c'] (decide (a = a') && (decide (b = b') && (decide (c = c') && true))) := by
  intro vs vs' com w x y h h'
  obtain ⟨v1, vs, rfl, r1, h⟩ := Reps.cons_inv h
  obtain ⟨v2, vs, rfl, r2, h⟩ := Reps.cons_inv h
  obtain ⟨v3, vs, rfl, r3, h⟩ := Reps.cons_inv h
  obtain rfl := Reps.nil_inv h
  obtain ⟨u1, us, rfl, s1, h'⟩ := Reps.cons_inv h'
  obtain ⟨u2, us, rfl, s2, h'⟩ := Reps.cons_inv h'
  obtain ⟨u3, us, rfl, s3, h'⟩ := Reps.cons_inv h'
  obtain rfl := Reps.nil_inv h'
  obtain rfl := rep_int r1; obtain rfl := rep_int r2; obtain rfl := rep_int r3
  obtain rfl := rep_int s1; obtain rfl := rep_int s2; obtain rfl := rep_int s3
  have hg : Try.prog.eqGuardType Try.prog.depth 88 = false := by kernel_rfl
  have hsz : (sizeOf 3).run Try.prog w = .ok 1 w := tyok_3.size w
  have key : (Op.equalIn 10000 88 (.agg #[.int .i64 a, .int .i64 b, .int .i64 c]) (.agg #[.int .i64 a', .int .i64 b', .int .i64 c'])).run Try.prog w =
      .ok (decide (a = a') && (decide (b = b') && (decide (c = c') && true))) w := by
    have p0 := part3 (cs := #[Value.int .i64 a, .int .i64 b, .int .i64 c]) (off := 0) rfl w
    have p1 := part3 (cs := #[Value.int .i64 a, .int .i64 b, .int .i64 c]) (off := 1) rfl w
    have p2 := part3 (cs := #[Value.int .i64 a, .int .i64 b, .int .i64 c]) (off := 2) rfl w
    have t0 := part3 (cs := #[Value.int .i64 a', .int .i64 b', .int .i64 c']) (off := 0) rfl w
    have t1 := part3 (cs := #[Value.int .i64 a', .int .i64 b', .int .i64 c']) (off := 1) rfl w
    have t2 := part3 (cs := #[Value.int .i64 a', .int .i64 b', .int .i64 c']) (off := 2) rfl w
    have q0 := eqInt3 9998 a a' w
    have q1 := eqInt3 9998 b b' w
    have q2 := eqInt3 9998 c c' w
    rw [show (10000 : Nat) = 9999 + 1 from rfl, Op.equalIn]
    generalize hE : Op.equalIn 9999 = E
    rw [show (9998 : Nat) + 1 = 9999 from rfl, hE] at q0 q1 q2
    simp only [Sem.run_bind, run_underlying Try.underlying88, Result.andThen_ok, hsz]
    simp only [Std.Legacy.Range.forIn_eq_forIn_range', Std.Legacy.Range.size, Nat.sub_zero, Nat.add_sub_cancel, Nat.div_one, List.range'_succ, List.range'_zero, List.forIn_cons, List.forIn_nil, Nat.zero_add, Nat.reduceAdd, Nat.zero_mul, Nat.one_mul, Nat.reduceMul, Sem.run_bind, p0, p1, p2, t0, t1, t2, q0, q1, q2, Result.andThen_ok, Sem.run_ite, Sem.run_pure]
    clear hE
    rcases Decidable.em (a = a') with rfl | h1 <;> rcases Decidable.em (b = b') with rfl | h2 <;> rcases Decidable.em (c = c') with rfl | h3 <;> simp_all
  constructor
  · rw [Sem.run_bind, run_eqGuard_agg w .eql 88 x y _ _ hg, Result.andThen_ok, run_eql_struct, key]; rfl
  · rw [Sem.run_bind, run_eqGuard_agg w .neq 88 x y _ _ hg, Result.andThen_ok, run_neq_struct, key]; rfl
end Go.Proofs.Ytakkdmdkelbnjaa.Abs

/- Contracts: Least. -/
namespace Go.Proofs.Ytakkdmdkelbnjaa.Abs
set_option linter.unusedSimpArgs false
set_option maxHeartbeats 4000000
set_option maxRecDepth 100000
open Go Go.RowKit Go.Proofs

def leastR (c : RChest) (p : Int) : List Int × Int := if enterE c [p, c.people.length] ≠ 0 then ([], enterE c [p, c.people.length]) else (leastL c.v p.toNat, 0)

theorem leastL_none (v : VChest) (hv : VOk v) (p : Nat) (hp : p < v.people.length) (h : viewS v p = 0) : leastL v p = [] := by
  have ho : ownL v p = [] := by rw [← listS_view v hv p hp, h]; rfl
  unfold leastL
  rw [ho]; rfl

theorem least_ok (v : VChest) (hv : VOk v) (p : Nat) (hp : p < v.people.length)
    (hen : ∀ m, ACall Try.prog 58 [vchestA v, ints [(p : Int), v.people.length]] m fun r m' => ∃ b, m b = none ∧ r = .tuple [.eptr (seenL v b), .int .i64 0] ∧ m' = upd m b (some (.map []))) :
    PCall Try.prog 33 [vchestA v, .int .i64 p] (.tuple [ints (leastL v p), .int .i64 0]) := by
  intro m
  refine ACall.forget ?_
  have hc6 := hv.c
  have hp3 := hv.p
  have hvl := viewS_lt v hv p
  have hfp := first_least v hv p hp
  have hnone := leastL_none v hv p hp
  have hlist := list_c (viewS v p) (Nat.lt_of_lt_of_le hvl (Nat.pow_le_pow_right (by decide) (by decide)))
  rw [listS_view v hv p hp] at hlist
  have hfirst := fun (b : Nat) (m : Mem) (hm : ToldM v b m) => first_c ((ownL v p).map Int.toNat) (fun x hx => by obtain ⟨y, hy, rfl⟩ := List.mem_map.1 hx; have := ownL_range hy; omega) (by have := ownL_six v hv p; simp; omega)
    (wok_told (g := 79) (caps := [.eptr [.eptr (seenL v b)], .eptr [.int .i64 (viewS v p)]]) (p := fun s => decide (tellS v s = tellS v (viewS v p))) (v := v) (b := b)
      fun x m l' hx hm => least1_c v b (viewS v p) hv (by omega) x m l' hx hm) m hm
  rw [← ints_natsA fun x hx => (ownL_range hx).1, hfp] at hfirst
  have hen := hen m
  have hdr := fun b => view_drop v b p (by omega)
  generalize leastL v p = W at *
  simp only [vchestA, vchestL, strs, ints, List.map_cons, List.map_nil] at hen hfirst hlist ⊢
  (refine acall_intro (E := envC (modeAt [6, 8, 9] []) false []) (envCOk _ _ _) rfl Try.func33 rfl Try.call33 (by kernel_rfl) (by simp [Try.ntmps33]) ?_; simp only [Try.f33];  simp (maxSteps := 4000000) only [↓VP0, ↓VP1, ↓VP2, VQ0, VQ1, VQ2, VQ3, VQ4, VT, ite_self, ite_split, Nat.reduceEqDiff, Nat.reduceAdd, Nat.reduceSub, Nat.reduceMul, Nat.reduceLeDiff, Nat.reduceLT, Nat.reduceBEq, Int.reduceLE, Int.reduceLT, Int.reduceNeg, Int.reduceAdd, Int.reduceSub, Int.reduceToNat, ↓reduceIte, reduceCtorEq])
  repeat' (first | intro _ | refine And.intro ?_ ?_)
  refine ACall.told hen ?_
  rintro r m1 ⟨b, hb, rfl, rfl⟩
  have hdr := hdr b
  have hfirst := hfirst b (upd m b (some (.map []))) ⟨[], upd_same _ _ _⟩
  simp only [seenL] at hfirst ⊢
  have heq := eqFlat88 (viewS v p) (viewS v p) (viewS v p) (viewS v 0) (viewS v 1) (viewS v 2)
  simp only [Bool.and_true] at heq
  simp (maxSteps := 4000000) only [↓VP0, ↓VP1, ↓VP2, VQ0, VQ1, VQ2, VQ3, VQ4, VT, ite_self, ite_split, Nat.reduceEqDiff, Nat.reduceAdd, Nat.reduceSub, Nat.reduceMul, Nat.reduceLeDiff, Nat.reduceLT, Nat.reduceBEq, Int.reduceLE, Int.reduceLT, Int.reduceNeg, Int.reduceAdd, Int.reduceSub, Int.reduceToNat, ↓reduceIte, reduceCtorEq, hdr]
  repeat' (first | intro _ | refine And.intro ?_ ?_)
  all_goals try (first | omega | (simp only [List.length_map, List.length_cons, List.length_nil, List.length_append, Nat.zero_add]; omega) | exact Int.natCast_nonneg _ | exact Int.le_trans (by decide) (Int.natCast_nonneg _) | exact Nat.le_of_ble_eq_true rfl)
  · rfl
  · rfl
  (refine adraw (by first | exact envOk _ | exact envCOk _ _ _) mixed [⟨false, false, 0⟩, ⟨false, false, 0⟩, ⟨false, false, 0⟩, ⟨false, false, 0⟩, ⟨false, false, 0⟩, ⟨false, false, 0⟩, ⟨false, false, 0⟩, ⟨false, false, 0⟩, ⟨false, false, 0⟩, ⟨false, false, 0⟩] (by kernel_rfl) ?_; show vcOpsD _ _ _ (_ :: _) _ _)
  simp (maxSteps := 4000000) only [↓VP0, ↓VP1, ↓VP2, VQ0, VQ1, VQ2, VQ3, VQ4, VT, ite_self, ite_split, Nat.reduceEqDiff, Nat.reduceAdd, Nat.reduceSub, Nat.reduceMul, Nat.reduceLeDiff, Nat.reduceLT, Nat.reduceBEq, Int.reduceLE, Int.reduceLT, Int.reduceNeg, Int.reduceAdd, Int.reduceSub, Int.reduceToNat, ↓reduceIte, reduceCtorEq, hdr, heq]
  repeat' (first | intro _ | refine And.intro ?_ ?_)
  all_goals try (first | omega | (simp only [List.length_map, List.length_cons, List.length_nil, List.length_append, Nat.zero_add]; omega) | exact Int.natCast_nonneg _ | exact Int.le_trans (by decide) (Int.natCast_nonneg _) | exact Nat.le_of_ble_eq_true rfl)
  · have h0 : viewS v p = 0 := by omega
    refine forget_fin hb ?_
    rw [hnone h0]; rfl
  all_goals
    (refine ACall.pure (hlist) ?_; try simp (maxSteps := 4000000) only [↓VP0, ↓VP1, ↓VP2, VQ0, VQ1, VQ2, VQ3, VQ4, VT, ite_self, ite_split, Nat.reduceEqDiff, Nat.reduceAdd, Nat.reduceSub, Nat.reduceMul, Nat.reduceLeDiff, Nat.reduceLT, Nat.reduceBEq, Int.reduceLE, Int.reduceLT, Int.reduceNeg, Int.reduceAdd, Int.reduceSub, Int.reduceToNat, ↓reduceIte, reduceCtorEq])
    refine ACall.told hfirst ?_
    rintro r m2 ⟨rfl, hM, hk⟩
    simp (maxSteps := 4000000) only [↓VP0, ↓VP1, ↓VP2, VQ0, VQ1, VQ2, VQ3, VQ4, VT, ite_self, ite_split, Nat.reduceEqDiff, Nat.reduceAdd, Nat.reduceSub, Nat.reduceMul, Nat.reduceLeDiff, Nat.reduceLT, Nat.reduceBEq, Int.reduceLE, Int.reduceLT, Int.reduceNeg, Int.reduceAdd, Int.reduceSub, Int.reduceToNat, ↓reduceIte, reduceCtorEq]
    obtain ⟨m'', q1, _, q2⟩ := forget_keeps (R := True) hb rfl hk trivial
    exact ⟨m'', q1, q2⟩

theorem refleast_ok (v : VChest) (hv : VOk v) (p : Nat) (hp : p < v.people.length)
    (hask : PCall Try.prog 64 [vchestA v, .int .i64 p, .int .i64 v.people.length, ints [], .int .i64 0] (.int .i64 0)) :
    PCall Try.prog 34 [vchestA v, .int .i64 p] (.tuple [ints (leastL v p), .int .i64 0]) := by
  intro m
  have hc6 := hv.c
  have hp3 := hv.p
  have hl6 := ownL_six v hv p
  have hW : leastL v p = match searchL (ownL v p).length (ownL v p).length (leastQ v p) with
    | some ch => pickL (ownL v p) ch
    | none => ownL v p := rfl
  generalize leastL v p = W at *
  have ho := own_c v hv p (by omega)
  have hor : ∀ x ∈ ownL v p, 0 ≤ x ∧ x < (v.copies.length : Int) := fun x hx => ownL_range hx
  have hbo := bits_own v hv p hp
  have hq : ∀ ch, leastQ v p ch = decide (listS (tellS v (bitsS (pickL (ownL v p) ch))) = listS (tellS v (bitsS (ownL v p)))) := fun ch => by
    unfold leastQ
    rw [hbo, decide_eq_decide]
    constructor
    · intro h; rw [h]
    · intro h
      exact listS_inj (Nat.lt_trans (tellS_small v hv _) (by decide)) (Nat.lt_trans (tellS_small v hv _) (by decide)) h
  generalize ownL v p = l at *
  have htold : ∀ l', (∀ i ∈ l', 0 ≤ i ∧ i < (v.copies.length : Int)) → PCall Try.prog 75 [vchestA v, ints l'] (ints (listS (tellS v (bitsS l')))) := fun l' h => by
    have := told_c v hv l' h
    rwa [toldL_tell v hv _ h] at this
  have hto := htold l hor
  have hch := fun k (hk : k ≤ 6) => choices_c l.length k hl6 hk
  simp only [vchestA, vchestL, strs, ints, intss, List.map_nil] at hask ho hto htold hch ⊢
  (refine acall_intro (E := env fun _ => .imm) (envOk _) rfl Try.func34 rfl Try.call34 (by kernel_rfl) (by simp [Try.ntmps34]) ?_; simp only [Try.f34];  simp (maxSteps := 4000000) only [↓VP0, ↓VP1, ↓VP2, VQ0, VQ1, VQ2, VQ3, VQ4, VT, ite_self, ite_split, Nat.reduceEqDiff, Nat.reduceAdd, Nat.reduceSub, Nat.reduceMul, Nat.reduceLeDiff, Nat.reduceLT, Nat.reduceBEq, Int.reduceLE, Int.reduceLT, Int.reduceNeg, Int.reduceAdd, Int.reduceSub, Int.reduceToNat, ↓reduceIte, reduceCtorEq])
  repeat' (first | intro _ | refine And.intro ?_ ?_)
  (refine ACall.pure (hask) ?_; try simp (maxSteps := 4000000) only [↓VP0, ↓VP1, ↓VP2, VQ0, VQ1, VQ2, VQ3, VQ4, VT, ite_self, ite_split, Nat.reduceEqDiff, Nat.reduceAdd, Nat.reduceSub, Nat.reduceMul, Nat.reduceLeDiff, Nat.reduceLT, Nat.reduceBEq, Int.reduceLE, Int.reduceLT, Int.reduceNeg, Int.reduceAdd, Int.reduceSub, Int.reduceToNat, ↓reduceIte, reduceCtorEq])
  (refine ACall.pure (ho) ?_; try simp (maxSteps := 4000000) only [↓VP0, ↓VP1, ↓VP2, VQ0, VQ1, VQ2, VQ3, VQ4, VT, ite_self, ite_split, Nat.reduceEqDiff, Nat.reduceAdd, Nat.reduceSub, Nat.reduceMul, Nat.reduceLeDiff, Nat.reduceLT, Nat.reduceBEq, Int.reduceLE, Int.reduceLT, Int.reduceNeg, Int.reduceAdd, Int.reduceSub, Int.reduceToNat, ↓reduceIte, reduceCtorEq])
  refine aloop (envOk _) (fun k : Nat => ⟨[(2, .v (.eptr [.int .i64 v.words, .int .i64 v.facts, .slice 1 (v.people.map AV.str), .int .i64 v.last, .slice 4 (v.copies.map vcopyA), .slice 2 (v.rules.map vruleA)])), (7, .v (ints l)), (8, .v (.int .i64 k))], [], [], m⟩)
    (fun k => k ≤ l.length ∧ ∀ ch ∈ allCh l.length k, leastQ v p ch = false) (fun k => l.length - k) 0 (fun _ => rfl) ⟨by omega, by simp [allCh]⟩ (by (simp only [Fits, fitsV, fitsO, fitsL, ↓upd, ↓lookV, ↓lookO, ↓lookL, Nat.reduceEqDiff, ↓reduceIte, ints, and_true, true_and, Option.some.injEq]); simp) ?_
  rintro k ⟨hk, hk1⟩
  simp (maxSteps := 4000000) only [↓VP0, ↓VP1, ↓VP2, VQ0, VQ1, VQ2, VQ3, VQ4, VT, ite_self, ite_split, Nat.reduceEqDiff, Nat.reduceAdd, Nat.reduceSub, Nat.reduceMul, Nat.reduceLeDiff, Nat.reduceLT, Nat.reduceBEq, Int.reduceLE, Int.reduceLT, Int.reduceNeg, Int.reduceAdd, Int.reduceSub, Int.reduceToNat, ↓reduceIte, reduceCtorEq]
  repeat' (first | intro _ | refine And.intro ?_ ?_)
  all_goals try (first | omega | (simp only [List.length_map, List.length_cons, List.length_nil, List.length_append, Nat.zero_add]; omega) | exact Int.natCast_nonneg _ | exact Int.le_trans (by decide) (Int.natCast_nonneg _) | exact Nat.le_of_ble_eq_true rfl)
  · (refine ACall.pure (hch k (by omega)) ?_; try simp (maxSteps := 4000000) only [↓VP0, ↓VP1, ↓VP2, VQ0, VQ1, VQ2, VQ3, VQ4, VT, ite_self, ite_split, Nat.reduceEqDiff, Nat.reduceAdd, Nat.reduceSub, Nat.reduceMul, Nat.reduceLeDiff, Nat.reduceLT, Nat.reduceBEq, Int.reduceLE, Int.reduceLT, Int.reduceNeg, Int.reduceAdd, Int.reduceSub, Int.reduceToNat, ↓reduceIte, reduceCtorEq])
    refine aloop (envOk _) (fun i : Nat => ⟨[(2, .v (.eptr [.int .i64 v.words, .int .i64 v.facts, .slice 1 (v.people.map AV.str), .int .i64 v.last, .slice 4 (v.copies.map vcopyA), .slice 2 (v.rules.map vruleA)])), (7, .v (ints l)), (8, .v (.int .i64 k)),
        (9, .v (.slice 1 ((choicesL l.length k).map fun x => AV.slice 1 (x.map (AV.int .i64))))), (10, .v (.int .i64 i))], [], [], m⟩)
      (fun i => i ≤ (choicesL l.length k).length ∧ ∀ ch ∈ (choicesL l.length k).take i, leastQ v p ch = false) (fun i => (choicesL l.length k).length - i) 0 (fun _ => rfl) ⟨by omega, by simp⟩ (by (simp only [Fits, fitsV, fitsO, fitsL, ↓upd, ↓lookV, ↓lookO, ↓lookL, Nat.reduceEqDiff, ↓reduceIte, ints, and_true, true_and, Option.some.injEq]); simp) ?_
    rintro i ⟨hi, hi1⟩
    simp (maxSteps := 4000000) only [↓VP0, ↓VP1, ↓VP2, VQ0, VQ1, VQ2, VQ3, VQ4, VT, ite_self, ite_split, Nat.reduceEqDiff, Nat.reduceAdd, Nat.reduceSub, Nat.reduceMul, Nat.reduceLeDiff, Nat.reduceLT, Nat.reduceBEq, Int.reduceLE, Int.reduceLT, Int.reduceNeg, Int.reduceAdd, Int.reduceSub, Int.reduceToNat, ↓reduceIte, reduceCtorEq]
    repeat' (first | intro _ | refine And.intro ?_ ?_)
    all_goals try (first | omega | (simp only [List.length_map, List.length_cons, List.length_nil, List.length_append, Nat.zero_add]; omega) | exact Int.natCast_nonneg _ | exact Int.le_trans (by decide) (Int.natCast_nonneg _) | exact Nat.le_of_ble_eq_true rfl)
    · have hlt : i < (choicesL l.length k).length := by omega
      have hmem : (choicesL l.length k)[i]! ∈ choicesL l.length k := by rw [getD_any hlt]; exact List.getElem_mem hlt
      obtain ⟨c1, c2⟩ := choices_mem hmem
      have hqc := hq (choicesL l.length k)[i]!
      have hpk := pick_c l (choicesL l.length k)[i]! (by omega) c2
      have hprg : ∀ x ∈ pickL l (choicesL l.length k)[i]!, 0 ≤ x ∧ x < (v.copies.length : Int) := pick_range hor c2
      generalize hpp : pickL l (choicesL l.length k)[i]! = pl at *
      have ht := htold pl hprg
      have hh := ints_c (listS (tellS v (bitsS pl))) (listS (tellS v (bitsS l)))
      rw [← hqc] at hh
      simp only [ints] at hpk ht hh
      (refine adraw (by first | exact envOk _ | exact envCOk _ _ _) mixed [⟨false, false, 0⟩, ⟨false, false, 0⟩, ⟨false, false, 0⟩, ⟨false, false, 0⟩, ⟨false, false, 0⟩, ⟨false, false, 0⟩, ⟨false, false, 0⟩, ⟨false, false, 0⟩, ⟨false, false, 0⟩, ⟨false, false, 0⟩, ⟨false, false, 0⟩, ⟨false, false, 0⟩] (by kernel_rfl) ?_; show vcOpsD _ _ _ (_ :: _) _ _)
      simp (maxSteps := 4000000) only [↓VP0, ↓VP1, ↓VP2, VQ0, VQ1, VQ2, VQ3, VQ4, VT, ite_self, ite_split, Nat.reduceEqDiff, Nat.reduceAdd, Nat.reduceSub, Nat.reduceMul, Nat.reduceLeDiff, Nat.reduceLT, Nat.reduceBEq, Int.reduceLE, Int.reduceLT, Int.reduceNeg, Int.reduceAdd, Int.reduceSub, Int.reduceToNat, ↓reduceIte, reduceCtorEq]
      repeat' (first | intro _ | refine And.intro ?_ ?_)
      all_goals try (first | omega | (simp only [List.length_map, List.length_cons, List.length_nil, List.length_append, Nat.zero_add]; omega) | exact Int.natCast_nonneg _ | exact Int.le_trans (by decide) (Int.natCast_nonneg _) | exact Nat.le_of_ble_eq_true rfl)
      (refine ⟨_, hpk, ?_⟩; try simp (maxSteps := 4000000) only [↓VP0, ↓VP1, ↓VP2, VQ0, VQ1, VQ2, VQ3, VQ4, VT, ite_self, ite_split, Nat.reduceEqDiff, Nat.reduceAdd, Nat.reduceSub, Nat.reduceMul, Nat.reduceLeDiff, Nat.reduceLT, Nat.reduceBEq, Int.reduceLE, Int.reduceLT, Int.reduceNeg, Int.reduceAdd, Int.reduceSub, Int.reduceToNat, ↓reduceIte, reduceCtorEq])
      (refine ⟨_, ht, ?_⟩; try simp (maxSteps := 4000000) only [↓VP0, ↓VP1, ↓VP2, VQ0, VQ1, VQ2, VQ3, VQ4, VT, ite_self, ite_split, Nat.reduceEqDiff, Nat.reduceAdd, Nat.reduceSub, Nat.reduceMul, Nat.reduceLeDiff, Nat.reduceLT, Nat.reduceBEq, Int.reduceLE, Int.reduceLT, Int.reduceNeg, Int.reduceAdd, Int.reduceSub, Int.reduceToNat, ↓reduceIte, reduceCtorEq])
      (refine ⟨_, hto, ?_⟩; try simp (maxSteps := 4000000) only [↓VP0, ↓VP1, ↓VP2, VQ0, VQ1, VQ2, VQ3, VQ4, VT, ite_self, ite_split, Nat.reduceEqDiff, Nat.reduceAdd, Nat.reduceSub, Nat.reduceMul, Nat.reduceLeDiff, Nat.reduceLT, Nat.reduceBEq, Int.reduceLE, Int.reduceLT, Int.reduceNeg, Int.reduceAdd, Int.reduceSub, Int.reduceToNat, ↓reduceIte, reduceCtorEq])
      (refine ⟨_, hh, ?_⟩; try simp (maxSteps := 4000000) only [↓VP0, ↓VP1, ↓VP2, VQ0, VQ1, VQ2, VQ3, VQ4, VT, ite_self, ite_split, Nat.reduceEqDiff, Nat.reduceAdd, Nat.reduceSub, Nat.reduceMul, Nat.reduceLeDiff, Nat.reduceLT, Nat.reduceBEq, Int.reduceLE, Int.reduceLT, Int.reduceNeg, Int.reduceAdd, Int.reduceSub, Int.reduceToNat, ↓reduceIte, reduceCtorEq])
      repeat' (first | intro _ | refine And.intro ?_ ?_)
      all_goals try (first | omega | (simp only [List.length_map, List.length_cons, List.length_nil, List.length_append, Nat.zero_add]; omega) | exact Int.natCast_nonneg _ | exact Int.le_trans (by decide) (Int.natCast_nonneg _) | exact Nat.le_of_ble_eq_true rfl)
      · have h1 : leastQ v p (choicesL l.length k)[i]! = true := by assumption
        (refine ACall.pure (hpk) ?_; try simp (maxSteps := 4000000) only [↓VP0, ↓VP1, ↓VP2, VQ0, VQ1, VQ2, VQ3, VQ4, VT, ite_self, ite_split, Nat.reduceEqDiff, Nat.reduceAdd, Nat.reduceSub, Nat.reduceMul, Nat.reduceLeDiff, Nat.reduceLT, Nat.reduceBEq, Int.reduceLE, Int.reduceLT, Int.reduceNeg, Int.reduceAdd, Int.reduceSub, Int.reduceToNat, ↓reduceIte, reduceCtorEq])
        rw [hW, search_hit (by omega) hlt hk1 hi1 h1, ← hpp]
      · have h1 : leastQ v p (choicesL l.length k)[i]! = false := by (first | assumption | (rw [← Bool.not_eq_false]; assumption) | (rw [← Bool.not_eq_true]; assumption) | omega)
        (refine ⟨i + 1, ?_, by dsimp only; omega, ?_⟩; rotate_left 1; · ((simp only [Fits, fitsV, fitsO, fitsL, ↓upd, ↓lookV, ↓lookO, ↓lookL, Nat.reduceEqDiff, ↓reduceIte, ints, and_true, true_and, Option.some.injEq]); try simp []))
        exact ⟨by omega, forall_take_succ hlt hi1 (by rw [← getD_any hlt]; exact h1)⟩
    · have hi2 : (choicesL l.length k).take i = choicesL l.length k := List.take_of_length_le (by omega)
      rw [hi2] at hi1
      (refine ⟨k + 1, ?_, by dsimp only; omega, ?_⟩; rotate_left 1; · ((simp only [Fits, fitsV, fitsO, fitsL, ↓upd, ↓lookV, ↓lookO, ↓lookL, Nat.reduceEqDiff, ↓reduceIte, ints, and_true, true_and, Option.some.injEq]); try simp []))
      refine ⟨by omega, fun ch hc => ?_⟩
      rw [allCh_succ] at hc
      rcases List.mem_append.1 hc with hc | hc
      · exact hk1 ch hc
      · exact hi1 ch hc
  · rw [hW, show searchL l.length l.length (leastQ v p) = none from find_no fun ch hc => hk1 ch (by rw [show k = l.length by omega]; exact hc)]

theorem least_top (c : RChest) (hs : namesFit c) (p : Int) (hpl : c.people.length ≤ 9223372036854775807) :
    PCall Try.prog 33 [chestA c, .int .i64 p] (.tuple [ints (leastR c p).1, .int .i64 (leastR c p).2]) := by
  by_cases h0 : enterE c [p, c.people.length] ≠ 0
  · have hR : leastR c p = ([], enterE c [p, c.people.length]) := by unfold leastR; rw [if_pos h0]
    rw [hR]
    intro m
    refine ACall.forget ?_
    have hen := enter_c c hs [p, c.people.length] (by simp) (fun _ => bounds_two (by omega)) m
    generalize enterE c [p, c.people.length] = e at *
    simp only [chestA, chestL, strs, ints, List.map_nil, List.map_cons] at hen ⊢
    (refine acall_intro (E := envC (modeAt [6, 8, 9] []) false []) (envCOk _ _ _) rfl Try.func33 rfl Try.call33 (by kernel_rfl) (by simp [Try.ntmps33]) ?_; simp only [Try.f33];  simp (maxSteps := 4000000) only [↓VP0, ↓VP1, ↓VP2, VQ0, VQ1, VQ2, VQ3, VQ4, VT, ite_self, ite_split, Nat.reduceEqDiff, Nat.reduceAdd, Nat.reduceSub, Nat.reduceMul, Nat.reduceLeDiff, Nat.reduceLT, Nat.reduceBEq, Int.reduceLE, Int.reduceLT, Int.reduceNeg, Int.reduceAdd, Int.reduceSub, Int.reduceToNat, ↓reduceIte, reduceCtorEq])
    repeat' (first | intro _ | refine And.intro ?_ ?_)
    refine ACall.told hen ?_
    rintro r m' (⟨_, rfl, rfl⟩ | ⟨h, _⟩)
    · simp (maxSteps := 4000000) only [↓VP0, ↓VP1, ↓VP2, VQ0, VQ1, VQ2, VQ3, VQ4, VT, ite_self, ite_split, Nat.reduceEqDiff, Nat.reduceAdd, Nat.reduceSub, Nat.reduceMul, Nat.reduceLeDiff, Nat.reduceLT, Nat.reduceBEq, Int.reduceLE, Int.reduceLT, Int.reduceNeg, Int.reduceAdd, Int.reduceSub, Int.reduceToNat, ↓reduceIte, reduceCtorEq, h0]
      exact ⟨m', fun _ _ h => h, rfl⟩
    · exact absurd h h0
  · have hR : leastR c p = (leastL c.v p.toNat, 0) := by unfold leastR; rw [if_neg h0]
    rw [hR]
    have h0' : enterE c [p, c.people.length] = 0 := by omega
    rw [enterE_two] at h0'
    have q1 : (checkR c).2.2 = 0 := by
      by_cases q : (checkR c).2.2 ≠ 0
      · rw [if_pos q] at h0'; exact absurd h0' q
      · omega
    rw [if_neg (by omega)] at h0'
    have q2 : offP 0 ((c.people.length : Int) - 1) p = false := by
      cases hq : offP 0 ((c.people.length : Int) - 1) p with
      | false => rfl
      | true => rw [hq] at h0'; simp at h0'
    obtain ⟨e1, hv⟩ := valid_v q1
    clear hR h0 h0' hpl
    generalize c.v = v at *
    subst e1
    have hp3 := hv.p
    have hen := fun m => enter_ok v hv hs [p, v.people.length] (by simp) (bounds_two (by omega)) (by
      have q3 : offP 0 ((v.people.length : Int) - 1) p = false := q2
      simp [pairsOff, q3]) m
    rw [offP_false] at q2
    have q2' : 0 ≤ p ∧ p ≤ (v.people.length : Int) - 1 := q2
    have hpn : p = ((p.toNat : Nat) : Int) := by omega
    have := least_ok v hv p.toNat (by omega) (by rw [← hpn]; exact hen)
    rw [← hpn] at this
    rw [vchestA_raw]; exact this

theorem refleast_top (c : RChest) (hs : namesFit c) (p : Int) : PCall Try.prog 34 [chestA c, .int .i64 p] (.tuple [ints (leastR c p).1, .int .i64 (leastR c p).2]) := by
  have hask := asked_c c hs p c.people.length [] 0 fun h => by
    obtain ⟨_, h2, _⟩ := checkR_parts h
    omega
  rw [askedR_nil] at hask
  have hER := enterE_two c p c.people.length
  rw [← hER] at hask
  by_cases h0 : enterE c [p, c.people.length] ≠ 0
  · have hR : leastR c p = ([], enterE c [p, c.people.length]) := by unfold leastR; rw [if_pos h0]
    rw [hR]
    intro m
    generalize enterE c [p, c.people.length] = e at *
    simp only [chestA, chestL, strs, ints, List.map_nil] at hask ⊢
    (refine acall_intro (E := env fun _ => .imm) (envOk _) rfl Try.func34 rfl Try.call34 (by kernel_rfl) (by simp [Try.ntmps34]) ?_; simp only [Try.f34];  simp (maxSteps := 4000000) only [↓VP0, ↓VP1, ↓VP2, VQ0, VQ1, VQ2, VQ3, VQ4, VT, ite_self, ite_split, Nat.reduceEqDiff, Nat.reduceAdd, Nat.reduceSub, Nat.reduceMul, Nat.reduceLeDiff, Nat.reduceLT, Nat.reduceBEq, Int.reduceLE, Int.reduceLT, Int.reduceNeg, Int.reduceAdd, Int.reduceSub, Int.reduceToNat, ↓reduceIte, reduceCtorEq])
    repeat' (first | intro _ | refine And.intro ?_ ?_)
    (refine ACall.pure (hask) ?_; try simp (maxSteps := 4000000) only [↓VP0, ↓VP1, ↓VP2, VQ0, VQ1, VQ2, VQ3, VQ4, VT, ite_self, ite_split, Nat.reduceEqDiff, Nat.reduceAdd, Nat.reduceSub, Nat.reduceMul, Nat.reduceLeDiff, Nat.reduceLT, Nat.reduceBEq, Int.reduceLE, Int.reduceLT, Int.reduceNeg, Int.reduceAdd, Int.reduceSub, Int.reduceToNat, ↓reduceIte, reduceCtorEq])
    simp (maxSteps := 4000000) only [↓VP0, ↓VP1, ↓VP2, VQ0, VQ1, VQ2, VQ3, VQ4, VT, ite_self, ite_split, Nat.reduceEqDiff, Nat.reduceAdd, Nat.reduceSub, Nat.reduceMul, Nat.reduceLeDiff, Nat.reduceLT, Nat.reduceBEq, Int.reduceLE, Int.reduceLT, Int.reduceNeg, Int.reduceAdd, Int.reduceSub, Int.reduceToNat, ↓reduceIte, reduceCtorEq, h0]
    try rfl
  · have hR : leastR c p = (leastL c.v p.toNat, 0) := by unfold leastR; rw [if_neg h0]
    rw [hR]
    have h0' : enterE c [p, c.people.length] = 0 := by omega
    rw [h0'] at hask
    rw [hER] at h0'
    have q1 : (checkR c).2.2 = 0 := by
      by_cases q : (checkR c).2.2 ≠ 0
      · rw [if_pos q] at h0'; exact absurd h0' q
      · omega
    rw [if_neg (by omega)] at h0'
    have q2 : offP 0 ((c.people.length : Int) - 1) p = false := by
      cases hq : offP 0 ((c.people.length : Int) - 1) p with
      | false => rfl
      | true => rw [hq] at h0'; simp at h0'
    obtain ⟨e1, hv⟩ := valid_v q1
    clear hR h0 h0' hER
    generalize c.v = v at *
    subst e1
    rw [vchestA_raw] at hask ⊢
    rw [offP_false] at q2
    have q2' : 0 ≤ p ∧ p ≤ (v.people.length : Int) - 1 := q2
    have hpn : p = ((p.toNat : Nat) : Int) := by omega
    have := refleast_ok v hv p.toNat (by omega) (by rw [← hpn]; exact hask)
    rwa [← hpn] at this
end Go.Proofs.Ytakkdmdkelbnjaa.Abs

/- Contracts: Key. -/
namespace Go.Proofs.Ytakkdmdkelbnjaa.Abs
set_option linter.unusedSimpArgs false
set_option maxHeartbeats 4000000
set_option maxRecDepth 100000
open Go Go.RowKit Go.Proofs

theorem key1_c (x : VCopy) (n : Int) : PCall Try.prog 67 [vcopyA x, .eptr [.int .i64 n]] (.bool (decide ((x.number : Int) = n))) := by
  intro m
  simp only [vcopyA]
  have heq := eqFlat51 (x.number : Int) x.words x.facts x.may n x.words x.facts x.may
  (refine acall_intro (E := env fun _ => .imm) (envOk _) rfl Try.func67 rfl Try.call67 (by kernel_rfl) (by simp [Try.ntmps67]) ?_; simp only [Try.f67];  simp (maxSteps := 4000000) only [↓VP0, ↓VP1, ↓VP2, VQ0, VQ1, VQ2, VQ3, VQ4, VT, ite_self, ite_split, Nat.reduceEqDiff, Nat.reduceAdd, Nat.reduceSub, Nat.reduceMul, Nat.reduceLeDiff, Nat.reduceLT, Nat.reduceBEq, Int.reduceLE, Int.reduceLT, Int.reduceNeg, Int.reduceAdd, Int.reduceSub, Int.reduceToNat, ↓reduceIte, reduceCtorEq])
  unfold vcSome
  simp only [buildFrom, placeOf]
  simp (maxSteps := 4000000) only [↓VP0, ↓VP1, ↓VP2, VQ0, VQ1, VQ2, VQ3, VQ4, VT, ite_self, ite_split, Nat.reduceEqDiff, Nat.reduceAdd, Nat.reduceSub, Nat.reduceMul, Nat.reduceLeDiff, Nat.reduceLT, Nat.reduceBEq, Int.reduceLE, Int.reduceLT, Int.reduceNeg, Int.reduceAdd, Int.reduceSub, Int.reduceToNat, ↓reduceIte, reduceCtorEq]
  refine ⟨by simpa only [decide_true, Bool.and_true] using heq, ?_⟩
  simp

theorem indexCopy_c (g : FuncId) (caps : List AV) (l : List VCopy) (p : VCopy → Bool) (h : ∀ x, PCall Try.prog g ([vcopyA x] ++ caps) (.bool (p x))) :
    PCall Try.prog 66 [.slice 4 (l.map vcopyA), .fn (.func g) [] caps] (.int .i64 (idxL p l)) := by
  intro m
  (refine acall_len Try.call66 fun hlen => ?_; refine acall_intro (E := env fun _ => .imm) (envOk _) rfl Try.func66 rfl Try.call66 (by kernel_rfl) (by simp [Try.ntmps66]) ?_; simp only [Try.f66];  simp (maxSteps := 4000000) only [↓VP0, ↓VP1, ↓VP2, VQ0, VQ1, VQ2, VQ3, VQ4, VT, ite_self, ite_split, Nat.reduceEqDiff, Nat.reduceAdd, Nat.reduceSub, Nat.reduceMul, Nat.reduceLeDiff, Nat.reduceLT, Nat.reduceBEq, Int.reduceLE, Int.reduceLT, Int.reduceNeg, Int.reduceAdd, Int.reduceSub, Int.reduceToNat, ↓reduceIte, reduceCtorEq])
  simp only [lenOk_cons, lenOk_nil, List.length_map, and_true, maxLen_eq] at hlen
  intro _
  refine aloop (envOk _) (fun k : Nat => ⟨[(0, .v (.slice 4 (l.map vcopyA))), (1, .v (.fn (.func g) [] caps)), (7, .v (.int .i64 l.length)), (8, .v (.int .i64 k))], [], [], m⟩) (fun k => k ≤ l.length ∧ ∀ x ∈ l.take k, p x = false) (fun k => l.length - k) 0 (fun _ => rfl) (by simp) (by (simp only [Fits, fitsV, fitsO, fitsL, ↓upd, ↓lookV, ↓lookO, ↓lookL, Nat.reduceEqDiff, ↓reduceIte, ints, and_true, true_and, Option.some.injEq]); simp) ?_
  intro k ⟨hk, hp⟩
  simp (maxSteps := 4000000) only [↓VP0, ↓VP1, ↓VP2, VQ0, VQ1, VQ2, VQ3, VQ4, VT, ite_self, ite_split, Nat.reduceEqDiff, Nat.reduceAdd, Nat.reduceSub, Nat.reduceMul, Nat.reduceLeDiff, Nat.reduceLT, Nat.reduceBEq, Int.reduceLE, Int.reduceLT, Int.reduceNeg, Int.reduceAdd, Int.reduceSub, Int.reduceToNat, ↓reduceIte, reduceCtorEq, vcopyA]
  repeat' (first | intro _ | refine And.intro ?_ ?_)
  all_goals try (first | omega | (simp only [List.length_map, List.length_cons, List.length_nil, List.length_append, Nat.zero_add]; omega) | exact Int.natCast_nonneg _ | exact Int.le_trans (by decide) (Int.natCast_nonneg _) | exact Nat.le_of_ble_eq_true rfl)
  · have hlt : k < l.length := by omega
    have e1 : l[k]! = l[k] := getD_any hlt
    have hc := h l[k]!
    simp only [vcopyA, List.cons_append, List.nil_append] at hc
    refine ACall.pure hc ?_
    simp (maxSteps := 4000000) only [↓VP0, ↓VP1, ↓VP2, VQ0, VQ1, VQ2, VQ3, VQ4, VT, ite_self, ite_split, Nat.reduceEqDiff, Nat.reduceAdd, Nat.reduceSub, Nat.reduceMul, Nat.reduceLeDiff, Nat.reduceLT, Nat.reduceBEq, Int.reduceLE, Int.reduceLT, Int.reduceNeg, Int.reduceAdd, Int.reduceSub, Int.reduceToNat, ↓reduceIte, reduceCtorEq]
    repeat' (first | intro _ | refine And.intro ?_ ?_)
    all_goals try (first | omega | (simp only [List.length_map, List.length_cons, List.length_nil, List.length_append, Nat.zero_add]; omega) | exact Int.natCast_nonneg _ | exact Int.le_trans (by decide) (Int.natCast_nonneg _) | exact Nat.le_of_ble_eq_true rfl)
    · rename_i hpx
      rw [idxL_at hlt hp (by rw [← e1]; exact hpx)]
    · have hpx : ¬ p l[k]! = true := by assumption
      refine ⟨k + 1, ⟨by omega, forall_take_succ hlt hp (by rw [← e1]; simpa using hpx)⟩, by dsimp only; omega, ?_⟩
      simp only [Fits, fitsV, fitsO, fitsL, ↓upd, ↓lookV, ↓lookO, ↓lookL, Nat.reduceEqDiff, ↓reduceIte, ints, and_true, true_and, Option.some.injEq]
      simp
  · have : l.take k = l := List.take_of_length_le (by omega)
    rw [this] at hp
    rw [idxL_neg hp]

theorem idxL_cases {α : Type} (p : α → Bool) (l : List α) : idxL p l = -1 ∨ ∃ k, k < l.length ∧ idxL p l = (k : Int) := by
  induction l with
  | nil => exact .inl rfl
  | cons x l ih =>
    unfold idxL
    by_cases h : p x = true
    · right; exact ⟨0, by simp, by simp [h]⟩
    · rw [if_neg h]
      rcases ih with ih | ⟨k, h1, h2⟩
      · left; rw [ih]; rfl
      · right; exact ⟨k + 1, by simp; omega, by rw [if_neg (by omega), h2]; simp⟩

/-- What Key looks for. -/
def keyQ (v : VChest) (p at_ : Nat) (ch : List Int) : Bool := decide (findS v p (bitsS ch) = 2 ^ at_)
def keyL (v : VChest) (p : Nat) (n : Int) : List Int × Int :=
  if atL v n < 0 then ([], 7) else if (viewS v p).testBit (atL v n).toNat = false then ([], 2)
  else match searchL v.words (v.words + 1) (keyQ v p (atL v n).toNat) with
    | some ch => (ch, 0)
    | none => ([], 9)

theorem upToL_pair : ∀ n, (upToL n).Pairwise (· < ·)
  | 0 => by simp [upToL]
  | n + 1 => by
    rw [upToL_succ, List.pairwise_append]
    refine ⟨upToL_pair n, by simp, fun x hx y hy => ?_⟩
    simp only [upToL, List.mem_map, List.mem_range] at hx
    obtain ⟨k, hk, rfl⟩ := hx
    rw [List.mem_singleton.1 hy]; omega

theorem pick_upTo {n : Nat} {ch : List Int} (h : ∀ i ∈ ch, 0 ≤ i ∧ i < (n : Int)) : pickL (upToL n) ch = ch := by
  unfold pickL
  conv => rhs; rw [← List.map_id ch]
  refine List.map_congr_left fun i hi => ?_
  have := h i hi
  have hlt : i.toNat < (upToL n).length := by simp [upToL]; omega
  rw [getD_idx hlt]
  simp [upToL]; omega

theorem first_key (v : VChest) (hv : VOk v) (p at_ : Nat) : firstL ((upToL v.words).map Int.toNat) (fun s => decide (findS v p s = 2 ^ at_)) = match searchL v.words (v.words + 1) (keyQ v p at_) with
    | some ch => (ch, true)
    | none => ([], false) := by
  have hw := hv.w
  have hlen : (upToL v.words).length = v.words := by simp [upToL]
  rw [first_pick (upToL_pair _) (fun x hx => by simp only [upToL, List.mem_map, List.mem_range] at hx; obtain ⟨k, hk, rfl⟩ := hx; omega) (by rw [hlen]; omega), hlen]
  have hmem : ∀ ch ∈ allCh v.words (v.words + 1), pickL (upToL v.words) ch = ch := fun ch hch => by
    obtain ⟨i, _, hc⟩ := mem_allCh.1 hch
    exact pick_upTo (choices_mem hc).2
  have : searchL v.words (v.words + 1) (fun ch => decide (findS v p (bitsS (pickL (upToL v.words) ch)) = 2 ^ at_)) = searchL v.words (v.words + 1) (keyQ v p at_) :=
    find_congr fun ch hch => by rw [hmem ch hch]; rfl
  rw [this]
  cases hs : searchL v.words (v.words + 1) (keyQ v p at_) with
  | none => rfl
  | some ch => simp only; rw [hmem ch (List.mem_of_find?_eq_some hs)]

theorem key_ok (v : VChest) (hv : VOk v) (p : Nat) (n : Int) (hp : p < v.people.length)
    (hen : ∀ m, ACall Try.prog 58 [vchestA v, ints [(p : Int), v.people.length]] m fun r m' => ∃ b, m b = none ∧ r = .tuple [.eptr (seenL v b), .int .i64 0] ∧ m' = upd m b (some (.map []))) :
    PCall Try.prog 25 [vchestA v, .int .i64 p, .int .i64 n] (.tuple [ints (keyL v p n).1, .int .i64 (keyL v p n).2]) := by
  intro m
  refine ACall.forget ?_
  have hc6 := hv.c
  have hw5 := hv.w
  have hp3 := hv.p
  have hvl := viewS_lt v hv p
  have hen := hen m
  have hdr := fun b => view_drop v b p (by omega)
  have hidx := indexCopy_c 67 [.eptr [.int .i64 n]] v.copies (fun x => decide ((x.number : Int) = n)) fun x => key1_c x n
  have hW : keyL v p n = if atL v n < 0 then ([], (7 : Int)) else if (viewS v p).testBit (atL v n).toNat = false then ([], (2 : Int))
    else match searchL v.words (v.words + 1) (keyQ v p (atL v n).toNat) with
    | some ch => (ch, (0 : Int))
    | none => ([], (9 : Int)) := rfl
  change PCall _ _ _ (.int .i64 (atL v n)) at hidx
  generalize keyL v p n = W at *
  rcases idxL_cases (fun x : VCopy => decide ((x.number : Int) = n)) v.copies with ha | ⟨k, hk, ha⟩
  · change atL v n = -1 at ha
    rw [ha] at hW hidx
    rw [if_pos (by decide)] at hW
    have h1 : (-1 : Int) < 0 := by decide
    simp only [vchestA, vchestL, strs, ints, List.map_cons, List.map_nil] at hen hidx ⊢
    (refine acall_intro (E := envC (modeAt [8, 10] []) false []) (envCOk _ _ _) rfl Try.func25 rfl Try.call25 (by kernel_rfl) (by simp [Try.ntmps25]) ?_; simp only [Try.f25];  simp (maxSteps := 4000000) only [↓VP0, ↓VP1, ↓VP2, VQ0, VQ1, VQ2, VQ3, VQ4, VT, ite_self, ite_split, Nat.reduceEqDiff, Nat.reduceAdd, Nat.reduceSub, Nat.reduceMul, Nat.reduceLeDiff, Nat.reduceLT, Nat.reduceBEq, Int.reduceLE, Int.reduceLT, Int.reduceNeg, Int.reduceAdd, Int.reduceSub, Int.reduceToNat, ↓reduceIte, reduceCtorEq])
    repeat' (first | intro _ | refine And.intro ?_ ?_)
    refine ACall.told hen ?_
    rintro r m1 ⟨b, hb, rfl, rfl⟩
    simp (maxSteps := 4000000) only [↓VP0, ↓VP1, ↓VP2, VQ0, VQ1, VQ2, VQ3, VQ4, VT, ite_self, ite_split, Nat.reduceEqDiff, Nat.reduceAdd, Nat.reduceSub, Nat.reduceMul, Nat.reduceLeDiff, Nat.reduceLT, Nat.reduceBEq, Int.reduceLE, Int.reduceLT, Int.reduceNeg, Int.reduceAdd, Int.reduceSub, Int.reduceToNat, ↓reduceIte, reduceCtorEq]
    repeat' (first | intro _ | refine And.intro ?_ ?_)
    all_goals try (first | omega | (simp only [List.length_map, List.length_cons, List.length_nil, List.length_append, Nat.zero_add]; omega) | exact Int.natCast_nonneg _ | exact Int.le_trans (by decide) (Int.natCast_nonneg _) | exact Nat.le_of_ble_eq_true rfl)
    (refine ACall.pure (hidx) ?_; try simp (maxSteps := 4000000) only [↓VP0, ↓VP1, ↓VP2, VQ0, VQ1, VQ2, VQ3, VQ4, VT, ite_self, ite_split, Nat.reduceEqDiff, Nat.reduceAdd, Nat.reduceSub, Nat.reduceMul, Nat.reduceLeDiff, Nat.reduceLT, Nat.reduceBEq, Int.reduceLE, Int.reduceLT, Int.reduceNeg, Int.reduceAdd, Int.reduceSub, Int.reduceToNat, ↓reduceIte, reduceCtorEq])
    try simp (maxSteps := 4000000) only [↓VP0, ↓VP1, ↓VP2, VQ0, VQ1, VQ2, VQ3, VQ4, VT, ite_self, ite_split, Nat.reduceEqDiff, Nat.reduceAdd, Nat.reduceSub, Nat.reduceMul, Nat.reduceLeDiff, Nat.reduceLT, Nat.reduceBEq, Int.reduceLE, Int.reduceLT, Int.reduceNeg, Int.reduceAdd, Int.reduceSub, Int.reduceToNat, ↓reduceIte, reduceCtorEq, h1]
    refine forget_fin hb ?_
    rw [hW]; rfl
  · change atL v n = (k : Int) at ha
    rw [ha] at hW hidx
    rw [if_neg (by omega), Int.toNat_natCast] at hW
    have hn1 : ¬ (k : Int) < 0 := by omega
    have hle : viewS v p / 2 ^ k ≤ viewS v p := Nat.div_le_self _ _
    cases hbit : (viewS v p).testBit k with
    | false =>
      rw [hbit, if_pos rfl] at hW
      simp only [vchestA, vchestL, strs, ints, List.map_cons, List.map_nil] at hen hidx ⊢
      (refine acall_intro (E := envC (modeAt [8, 10] []) false []) (envCOk _ _ _) rfl Try.func25 rfl Try.call25 (by kernel_rfl) (by simp [Try.ntmps25]) ?_; simp only [Try.f25];  simp (maxSteps := 4000000) only [↓VP0, ↓VP1, ↓VP2, VQ0, VQ1, VQ2, VQ3, VQ4, VT, ite_self, ite_split, Nat.reduceEqDiff, Nat.reduceAdd, Nat.reduceSub, Nat.reduceMul, Nat.reduceLeDiff, Nat.reduceLT, Nat.reduceBEq, Int.reduceLE, Int.reduceLT, Int.reduceNeg, Int.reduceAdd, Int.reduceSub, Int.reduceToNat, ↓reduceIte, reduceCtorEq])
      repeat' (first | intro _ | refine And.intro ?_ ?_)
      refine ACall.told hen ?_
      rintro r m1 ⟨b, hb, rfl, rfl⟩
      have hdr := hdr b
      simp only [seenL]
      simp (maxSteps := 4000000) only [↓VP0, ↓VP1, ↓VP2, VQ0, VQ1, VQ2, VQ3, VQ4, VT, ite_self, ite_split, Nat.reduceEqDiff, Nat.reduceAdd, Nat.reduceSub, Nat.reduceMul, Nat.reduceLeDiff, Nat.reduceLT, Nat.reduceBEq, Int.reduceLE, Int.reduceLT, Int.reduceNeg, Int.reduceAdd, Int.reduceSub, Int.reduceToNat, ↓reduceIte, reduceCtorEq]
      repeat' (first | intro _ | refine And.intro ?_ ?_)
      all_goals try (first | omega | (simp only [List.length_map, List.length_cons, List.length_nil, List.length_append, Nat.zero_add]; omega) | exact Int.natCast_nonneg _ | exact Int.le_trans (by decide) (Int.natCast_nonneg _) | exact Nat.le_of_ble_eq_true rfl)
      (refine ACall.pure (hidx) ?_; try simp (maxSteps := 4000000) only [↓VP0, ↓VP1, ↓VP2, VQ0, VQ1, VQ2, VQ3, VQ4, VT, ite_self, ite_split, Nat.reduceEqDiff, Nat.reduceAdd, Nat.reduceSub, Nat.reduceMul, Nat.reduceLeDiff, Nat.reduceLT, Nat.reduceBEq, Int.reduceLE, Int.reduceLT, Int.reduceNeg, Int.reduceAdd, Int.reduceSub, Int.reduceToNat, ↓reduceIte, reduceCtorEq])
      simp (maxSteps := 4000000) only [↓VP0, ↓VP1, ↓VP2, VQ0, VQ1, VQ2, VQ3, VQ4, VT, ite_self, ite_split, Nat.reduceEqDiff, Nat.reduceAdd, Nat.reduceSub, Nat.reduceMul, Nat.reduceLeDiff, Nat.reduceLT, Nat.reduceBEq, Int.reduceLE, Int.reduceLT, Int.reduceNeg, Int.reduceAdd, Int.reduceSub, Int.reduceToNat, ↓reduceIte, reduceCtorEq, hn1]
      (refine adraw (by first | exact envOk _ | exact envCOk _ _ _) mixed [⟨false, false, 0⟩, ⟨false, false, 0⟩, ⟨false, false, 0⟩, ⟨false, false, 0⟩, ⟨false, false, 0⟩, ⟨false, false, 0⟩, ⟨false, false, 0⟩, ⟨false, false, 0⟩, ⟨false, false, 0⟩, ⟨false, false, 0⟩, ⟨false, false, 0⟩] (by kernel_rfl) ?_; show vcOpsD _ _ _ (_ :: _) _ _)
      simp (maxSteps := 4000000) only [↓VP0, ↓VP1, ↓VP2, VQ0, VQ1, VQ2, VQ3, VQ4, VT, ite_self, ite_split, Nat.reduceEqDiff, Nat.reduceAdd, Nat.reduceSub, Nat.reduceMul, Nat.reduceLeDiff, Nat.reduceLT, Nat.reduceBEq, Int.reduceLE, Int.reduceLT, Int.reduceNeg, Int.reduceAdd, Int.reduceSub, Int.reduceToNat, ↓reduceIte, reduceCtorEq, hdr, hbit]
      repeat' (first | intro _ | refine And.intro ?_ ?_)
      all_goals try (first | omega | (simp only [List.length_map, List.length_cons, List.length_nil, List.length_append, Nat.zero_add]; omega) | exact Int.natCast_nonneg _ | exact Int.le_trans (by decide) (Int.natCast_nonneg _) | exact Nat.le_of_ble_eq_true rfl)
      refine forget_fin hb ?_
      rw [hW]; rfl
    | true =>
      rw [hbit, if_neg (by simp)] at hW
      have hfp := first_key v hv p k
      have hup := upTo_c v.words (by omega)
      have hfirst := fun (m : Mem) (b : Nat) => first_c ((upToL v.words).map Int.toNat) (fun x hx => by
          obtain ⟨y, hy, rfl⟩ := List.mem_map.1 hx
          simp only [upToL, List.mem_map, List.mem_range] at hy
          obtain ⟨q, hq, rfl⟩ := hy
          omega) (by simp [upToL]; omega)
        (wok_pure (g := 70) (caps := [.eptr [.eptr (seenL v b)], .eptr [.int .i64 p], .eptr [.int .i64 k]]) (p := fun s => decide (findS v p s = 2 ^ k)) fun x hx => key2_c v b p k x hv hp (by omega) hx) m trivial
      rw [← ints_natsA fun x hx => by simp only [upToL, List.mem_map, List.mem_range] at hx; obtain ⟨q, hq, rfl⟩ := hx; omega] at hfirst
      generalize firstL ((upToL v.words).map Int.toNat) (fun s => decide (findS v p s = 2 ^ k)) = FL at *
      have hcase : (∃ ch, W = (ch, 0) ∧ FL = (ch, true)) ∨ (W = ([], 9) ∧ FL = ([], false)) := by
        cases hs : searchL v.words (v.words + 1) (keyQ v p k) with
        | some ch => rw [hs] at hW hfp; exact .inl ⟨ch, hW, hfp⟩
        | none => rw [hs] at hW hfp; exact .inr ⟨hW, hfp⟩
      clear hW hfp
      rcases hcase with ⟨ch, rfl, rfl⟩ | ⟨rfl, rfl⟩
      all_goals
        simp only [vchestA, vchestL, strs, ints, List.map_cons, List.map_nil] at hen hidx hup hfirst ⊢
        (refine acall_intro (E := envC (modeAt [8, 10] []) false []) (envCOk _ _ _) rfl Try.func25 rfl Try.call25 (by kernel_rfl) (by simp [Try.ntmps25]) ?_; simp only [Try.f25];  simp (maxSteps := 4000000) only [↓VP0, ↓VP1, ↓VP2, VQ0, VQ1, VQ2, VQ3, VQ4, VT, ite_self, ite_split, Nat.reduceEqDiff, Nat.reduceAdd, Nat.reduceSub, Nat.reduceMul, Nat.reduceLeDiff, Nat.reduceLT, Nat.reduceBEq, Int.reduceLE, Int.reduceLT, Int.reduceNeg, Int.reduceAdd, Int.reduceSub, Int.reduceToNat, ↓reduceIte, reduceCtorEq])
        repeat' (first | intro _ | refine And.intro ?_ ?_)
        refine ACall.told hen ?_
        rintro r m1 ⟨b, hb, rfl, rfl⟩
        have hdr := hdr b
        have hfirst := hfirst (upd m b (some (.map []))) b
        simp only [seenL] at hfirst ⊢
        simp (maxSteps := 4000000) only [↓VP0, ↓VP1, ↓VP2, VQ0, VQ1, VQ2, VQ3, VQ4, VT, ite_self, ite_split, Nat.reduceEqDiff, Nat.reduceAdd, Nat.reduceSub, Nat.reduceMul, Nat.reduceLeDiff, Nat.reduceLT, Nat.reduceBEq, Int.reduceLE, Int.reduceLT, Int.reduceNeg, Int.reduceAdd, Int.reduceSub, Int.reduceToNat, ↓reduceIte, reduceCtorEq]
        repeat' (first | intro _ | refine And.intro ?_ ?_)
        all_goals try (first | omega | (simp only [List.length_map, List.length_cons, List.length_nil, List.length_append, Nat.zero_add]; omega) | exact Int.natCast_nonneg _ | exact Int.le_trans (by decide) (Int.natCast_nonneg _) | exact Nat.le_of_ble_eq_true rfl)
        (refine ACall.pure (hidx) ?_; try simp (maxSteps := 4000000) only [↓VP0, ↓VP1, ↓VP2, VQ0, VQ1, VQ2, VQ3, VQ4, VT, ite_self, ite_split, Nat.reduceEqDiff, Nat.reduceAdd, Nat.reduceSub, Nat.reduceMul, Nat.reduceLeDiff, Nat.reduceLT, Nat.reduceBEq, Int.reduceLE, Int.reduceLT, Int.reduceNeg, Int.reduceAdd, Int.reduceSub, Int.reduceToNat, ↓reduceIte, reduceCtorEq])
        simp (maxSteps := 4000000) only [↓VP0, ↓VP1, ↓VP2, VQ0, VQ1, VQ2, VQ3, VQ4, VT, ite_self, ite_split, Nat.reduceEqDiff, Nat.reduceAdd, Nat.reduceSub, Nat.reduceMul, Nat.reduceLeDiff, Nat.reduceLT, Nat.reduceBEq, Int.reduceLE, Int.reduceLT, Int.reduceNeg, Int.reduceAdd, Int.reduceSub, Int.reduceToNat, ↓reduceIte, reduceCtorEq, hn1]
        (refine adraw (by first | exact envOk _ | exact envCOk _ _ _) mixed [⟨false, false, 0⟩, ⟨false, false, 0⟩, ⟨false, false, 0⟩, ⟨false, false, 0⟩, ⟨false, false, 0⟩, ⟨false, false, 0⟩, ⟨false, false, 0⟩, ⟨false, false, 0⟩, ⟨false, false, 0⟩, ⟨false, false, 0⟩, ⟨false, false, 0⟩] (by kernel_rfl) ?_; show vcOpsD _ _ _ (_ :: _) _ _)
        simp (maxSteps := 4000000) only [↓VP0, ↓VP1, ↓VP2, VQ0, VQ1, VQ2, VQ3, VQ4, VT, ite_self, ite_split, Nat.reduceEqDiff, Nat.reduceAdd, Nat.reduceSub, Nat.reduceMul, Nat.reduceLeDiff, Nat.reduceLT, Nat.reduceBEq, Int.reduceLE, Int.reduceLT, Int.reduceNeg, Int.reduceAdd, Int.reduceSub, Int.reduceToNat, ↓reduceIte, reduceCtorEq, hdr, hbit]
        repeat' (first | intro _ | refine And.intro ?_ ?_)
        all_goals try (first | omega | (simp only [List.length_map, List.length_cons, List.length_nil, List.length_append, Nat.zero_add]; omega) | exact Int.natCast_nonneg _ | exact Int.le_trans (by decide) (Int.natCast_nonneg _) | exact Nat.le_of_ble_eq_true rfl)
        (refine ACall.pure (hup) ?_; try simp (maxSteps := 4000000) only [↓VP0, ↓VP1, ↓VP2, VQ0, VQ1, VQ2, VQ3, VQ4, VT, ite_self, ite_split, Nat.reduceEqDiff, Nat.reduceAdd, Nat.reduceSub, Nat.reduceMul, Nat.reduceLeDiff, Nat.reduceLT, Nat.reduceBEq, Int.reduceLE, Int.reduceLT, Int.reduceNeg, Int.reduceAdd, Int.reduceSub, Int.reduceToNat, ↓reduceIte, reduceCtorEq])
        refine ACall.told hfirst ?_
        rintro r m2 ⟨rfl, hM, hk2⟩
        simp (maxSteps := 4000000) only [↓VP0, ↓VP1, ↓VP2, VQ0, VQ1, VQ2, VQ3, VQ4, VT, ite_self, ite_split, Nat.reduceEqDiff, Nat.reduceAdd, Nat.reduceSub, Nat.reduceMul, Nat.reduceLeDiff, Nat.reduceLT, Nat.reduceBEq, Int.reduceLE, Int.reduceLT, Int.reduceNeg, Int.reduceAdd, Int.reduceSub, Int.reduceToNat, ↓reduceIte, reduceCtorEq]
        exact ⟨m, fun b' x hx => hk2 b' x id ((upd_ne _ _ (ne_of_some hx hb)).trans hx), rfl⟩

def keyR (c : RChest) (p n : Int) : List Int × Int := if enterE c [p, c.people.length] ≠ 0 then ([], enterE c [p, c.people.length]) else keyL c.v p.toNat n

theorem key_top (c : RChest) (hs : namesFit c) (p n : Int) (hpl : c.people.length ≤ 9223372036854775807) :
    PCall Try.prog 25 [chestA c, .int .i64 p, .int .i64 n] (.tuple [ints (keyR c p n).1, .int .i64 (keyR c p n).2]) := by
  by_cases h0 : enterE c [p, c.people.length] ≠ 0
  · have hR : keyR c p n = ([], enterE c [p, c.people.length]) := by unfold keyR; rw [if_pos h0]
    rw [hR]
    intro m
    refine ACall.forget ?_
    have hen := enter_c c hs [p, c.people.length] (by simp) (fun _ => bounds_two (by omega)) m
    generalize enterE c [p, c.people.length] = e at *
    simp only [chestA, chestL, strs, ints, List.map_nil, List.map_cons] at hen ⊢
    (refine acall_intro (E := envC (modeAt [8, 10] []) false []) (envCOk _ _ _) rfl Try.func25 rfl Try.call25 (by kernel_rfl) (by simp [Try.ntmps25]) ?_; simp only [Try.f25];  simp (maxSteps := 4000000) only [↓VP0, ↓VP1, ↓VP2, VQ0, VQ1, VQ2, VQ3, VQ4, VT, ite_self, ite_split, Nat.reduceEqDiff, Nat.reduceAdd, Nat.reduceSub, Nat.reduceMul, Nat.reduceLeDiff, Nat.reduceLT, Nat.reduceBEq, Int.reduceLE, Int.reduceLT, Int.reduceNeg, Int.reduceAdd, Int.reduceSub, Int.reduceToNat, ↓reduceIte, reduceCtorEq])
    repeat' (first | intro _ | refine And.intro ?_ ?_)
    refine ACall.told hen ?_
    rintro r m' (⟨_, rfl, rfl⟩ | ⟨h, _⟩)
    · simp (maxSteps := 4000000) only [↓VP0, ↓VP1, ↓VP2, VQ0, VQ1, VQ2, VQ3, VQ4, VT, ite_self, ite_split, Nat.reduceEqDiff, Nat.reduceAdd, Nat.reduceSub, Nat.reduceMul, Nat.reduceLeDiff, Nat.reduceLT, Nat.reduceBEq, Int.reduceLE, Int.reduceLT, Int.reduceNeg, Int.reduceAdd, Int.reduceSub, Int.reduceToNat, ↓reduceIte, reduceCtorEq, h0]
      exact ⟨m', fun _ _ h => h, rfl⟩
    · exact absurd h h0
  · have hR : keyR c p n = keyL c.v p.toNat n := by unfold keyR; rw [if_neg h0]
    rw [hR]
    have h0' : enterE c [p, c.people.length] = 0 := by omega
    rw [enterE_two] at h0'
    have q1 : (checkR c).2.2 = 0 := by
      by_cases q : (checkR c).2.2 ≠ 0
      · rw [if_pos q] at h0'; exact absurd h0' q
      · omega
    rw [if_neg (by omega)] at h0'
    have q2 : offP 0 ((c.people.length : Int) - 1) p = false := by
      cases hq : offP 0 ((c.people.length : Int) - 1) p with
      | false => rfl
      | true => rw [hq] at h0'; simp at h0'
    obtain ⟨e1, hv⟩ := valid_v q1
    clear hR h0 h0' hpl
    generalize c.v = v at *
    subst e1
    have hp3 := hv.p
    have hen := fun m => enter_ok v hv hs [p, v.people.length] (by simp) (bounds_two (by omega)) (by
      have q3 : offP 0 ((v.people.length : Int) - 1) p = false := q2
      simp [pairsOff, q3]) m
    rw [offP_false] at q2
    have q2' : 0 ≤ p ∧ p ≤ (v.people.length : Int) - 1 := q2
    have hpn : p = ((p.toNat : Nat) : Int) := by omega
    have := key_ok v hv p.toNat n (by omega) (by rw [← hpn]; exact hen)
    rw [← hpn] at this
    rw [vchestA_raw]; exact this

theorem setOf_eq_list (v : VChest) (hv : VOk v) (p k : Nat) (ch : List Int) (hp : p < v.people.length) (hk : k < v.copies.length) : keyQ v p k ch = decide (foundL v p ch = [(k : Int)]) := by
  have hc6 := hv.c
  unfold keyQ
  rw [← found_find v hv p ch hp, decide_eq_decide]
  have h1 : findS v p (bitsS ch) < 2 ^ 62 := Nat.lt_of_lt_of_le (setOf_lt _ _) (Nat.pow_le_pow_right (by decide) (by omega))
  have h2 : bitsS [(k : Int)] = 2 ^ k := by simp [bitsS]
  constructor
  · intro h
    rw [h, ← h2]
    exact listS_bitsS (by simp) (by simp; omega)
  · intro h
    rw [← bitsS_listS _ h1, h, h2]

theorem refkey_ok (v : VChest) (hv : VOk v) (p : Nat) (n : Int) (hp : p < v.people.length)
    (hask : PCall Try.prog 64 [vchestA v, .int .i64 p, .int .i64 v.people.length, ints [], .int .i64 0] (.int .i64 0)) :
    PCall Try.prog 26 [vchestA v, .int .i64 p, .int .i64 n] (.tuple [ints (keyL v p n).1, .int .i64 (keyL v p n).2]) := by
  intro m
  have hc6 := hv.c
  have hw5 := hv.w
  have hp3 := hv.p
  have hat := at_c v hv n
  have ho := own_c v hv p (by omega)
  have hW : keyL v p n = if atL v n < 0 then ([], (7 : Int)) else if (viewS v p).testBit (atL v n).toNat = false then ([], (2 : Int))
    else match searchL v.words (v.words + 1) (keyQ v p (atL v n).toNat) with
    | some ch => (ch, (0 : Int))
    | none => ([], (9 : Int)) := rfl
  generalize keyL v p n = W at *
  rcases idxL_cases (fun x : VCopy => decide ((x.number : Int) = n)) v.copies with ha | ⟨a, hk, ha⟩
  · change atL v n = -1 at ha
    rw [ha] at hW hat
    rw [if_pos (by decide)] at hW
    have h1 : (-1 : Int) < 0 := by decide
    simp only [vchestA, vchestL, strs, ints, List.map_cons, List.map_nil] at hask hat ⊢
    (refine acall_intro (E := env fun _ => .imm) (envOk _) rfl Try.func26 rfl Try.call26 (by kernel_rfl) (by simp [Try.ntmps26]) ?_; simp only [Try.f26];  simp (maxSteps := 4000000) only [↓VP0, ↓VP1, ↓VP2, VQ0, VQ1, VQ2, VQ3, VQ4, VT, ite_self, ite_split, Nat.reduceEqDiff, Nat.reduceAdd, Nat.reduceSub, Nat.reduceMul, Nat.reduceLeDiff, Nat.reduceLT, Nat.reduceBEq, Int.reduceLE, Int.reduceLT, Int.reduceNeg, Int.reduceAdd, Int.reduceSub, Int.reduceToNat, ↓reduceIte, reduceCtorEq])
    repeat' (first | intro _ | refine And.intro ?_ ?_)
    (refine ACall.pure (hask) ?_; try simp (maxSteps := 4000000) only [↓VP0, ↓VP1, ↓VP2, VQ0, VQ1, VQ2, VQ3, VQ4, VT, ite_self, ite_split, Nat.reduceEqDiff, Nat.reduceAdd, Nat.reduceSub, Nat.reduceMul, Nat.reduceLeDiff, Nat.reduceLT, Nat.reduceBEq, Int.reduceLE, Int.reduceLT, Int.reduceNeg, Int.reduceAdd, Int.reduceSub, Int.reduceToNat, ↓reduceIte, reduceCtorEq])
    (refine ACall.pure (hat) ?_; try simp (maxSteps := 4000000) only [↓VP0, ↓VP1, ↓VP2, VQ0, VQ1, VQ2, VQ3, VQ4, VT, ite_self, ite_split, Nat.reduceEqDiff, Nat.reduceAdd, Nat.reduceSub, Nat.reduceMul, Nat.reduceLeDiff, Nat.reduceLT, Nat.reduceBEq, Int.reduceLE, Int.reduceLT, Int.reduceNeg, Int.reduceAdd, Int.reduceSub, Int.reduceToNat, ↓reduceIte, reduceCtorEq])
    try simp (maxSteps := 4000000) only [↓VP0, ↓VP1, ↓VP2, VQ0, VQ1, VQ2, VQ3, VQ4, VT, ite_self, ite_split, Nat.reduceEqDiff, Nat.reduceAdd, Nat.reduceSub, Nat.reduceMul, Nat.reduceLeDiff, Nat.reduceLT, Nat.reduceBEq, Int.reduceLE, Int.reduceLT, Int.reduceNeg, Int.reduceAdd, Int.reduceSub, Int.reduceToNat, ↓reduceIte, reduceCtorEq, h1]
    rw [hW]; rfl
  · change atL v n = (a : Int) at ha
    rw [ha] at hW hat
    rw [if_neg (by omega), Int.toNat_natCast] at hW
    have hn1 : ¬ (a : Int) < 0 := by omega
    have hin : decide ((a : Int) ∈ ownL v p) = (viewS v p).testBit a := by
      rw [← listS_view v hv p hp, Bool.eq_iff_iff, decide_eq_true_eq]
      unfold listS
      rw [mem_listTo]
      constructor
      · rintro ⟨j, _, h2, h3⟩
        have : a = j := by omega
        rw [this]; exact h2
      · intro h
        exact ⟨a, by omega, h, rfl⟩
    have hh := has_c (ownL v p) (a : Int)
    rw [hin] at hh
    cases hbit : (viewS v p).testBit a with
    | false =>
      rw [hbit, if_pos rfl] at hW
      rw [hbit] at hh
      simp only [vchestA, vchestL, strs, ints, List.map_cons, List.map_nil] at hask hat ho hh ⊢
      (refine acall_intro (E := env fun _ => .imm) (envOk _) rfl Try.func26 rfl Try.call26 (by kernel_rfl) (by simp [Try.ntmps26]) ?_; simp only [Try.f26];  simp (maxSteps := 4000000) only [↓VP0, ↓VP1, ↓VP2, VQ0, VQ1, VQ2, VQ3, VQ4, VT, ite_self, ite_split, Nat.reduceEqDiff, Nat.reduceAdd, Nat.reduceSub, Nat.reduceMul, Nat.reduceLeDiff, Nat.reduceLT, Nat.reduceBEq, Int.reduceLE, Int.reduceLT, Int.reduceNeg, Int.reduceAdd, Int.reduceSub, Int.reduceToNat, ↓reduceIte, reduceCtorEq])
      repeat' (first | intro _ | refine And.intro ?_ ?_)
      (refine ACall.pure (hask) ?_; try simp (maxSteps := 4000000) only [↓VP0, ↓VP1, ↓VP2, VQ0, VQ1, VQ2, VQ3, VQ4, VT, ite_self, ite_split, Nat.reduceEqDiff, Nat.reduceAdd, Nat.reduceSub, Nat.reduceMul, Nat.reduceLeDiff, Nat.reduceLT, Nat.reduceBEq, Int.reduceLE, Int.reduceLT, Int.reduceNeg, Int.reduceAdd, Int.reduceSub, Int.reduceToNat, ↓reduceIte, reduceCtorEq])
      (refine ACall.pure (hat) ?_; try simp (maxSteps := 4000000) only [↓VP0, ↓VP1, ↓VP2, VQ0, VQ1, VQ2, VQ3, VQ4, VT, ite_self, ite_split, Nat.reduceEqDiff, Nat.reduceAdd, Nat.reduceSub, Nat.reduceMul, Nat.reduceLeDiff, Nat.reduceLT, Nat.reduceBEq, Int.reduceLE, Int.reduceLT, Int.reduceNeg, Int.reduceAdd, Int.reduceSub, Int.reduceToNat, ↓reduceIte, reduceCtorEq])
      simp (maxSteps := 4000000) only [↓VP0, ↓VP1, ↓VP2, VQ0, VQ1, VQ2, VQ3, VQ4, VT, ite_self, ite_split, Nat.reduceEqDiff, Nat.reduceAdd, Nat.reduceSub, Nat.reduceMul, Nat.reduceLeDiff, Nat.reduceLT, Nat.reduceBEq, Int.reduceLE, Int.reduceLT, Int.reduceNeg, Int.reduceAdd, Int.reduceSub, Int.reduceToNat, ↓reduceIte, reduceCtorEq, hn1]
      (refine ACall.pure (ho) ?_; try simp (maxSteps := 4000000) only [↓VP0, ↓VP1, ↓VP2, VQ0, VQ1, VQ2, VQ3, VQ4, VT, ite_self, ite_split, Nat.reduceEqDiff, Nat.reduceAdd, Nat.reduceSub, Nat.reduceMul, Nat.reduceLeDiff, Nat.reduceLT, Nat.reduceBEq, Int.reduceLE, Int.reduceLT, Int.reduceNeg, Int.reduceAdd, Int.reduceSub, Int.reduceToNat, ↓reduceIte, reduceCtorEq])
      (refine ACall.pure (hh) ?_; try simp (maxSteps := 4000000) only [↓VP0, ↓VP1, ↓VP2, VQ0, VQ1, VQ2, VQ3, VQ4, VT, ite_self, ite_split, Nat.reduceEqDiff, Nat.reduceAdd, Nat.reduceSub, Nat.reduceMul, Nat.reduceLeDiff, Nat.reduceLT, Nat.reduceBEq, Int.reduceLE, Int.reduceLT, Int.reduceNeg, Int.reduceAdd, Int.reduceSub, Int.reduceToNat, ↓reduceIte, reduceCtorEq])
      rw [hW]; rfl
    | true =>
      rw [hbit, if_neg (by simp)] at hW
      rw [hbit] at hh
      have hq := fun ch => setOf_eq_list v hv p a ch hp hk
      have hch := fun k (hk : k ≤ 6) => choices_c v.words k (by omega) hk
      have hfd := fun ch (h : ∀ w ∈ ch, w ≤ 9223372036854775807) => found_c v hv p ch (by omega) h
      simp only [vchestA, vchestL, strs, ints, intss, List.map_cons, List.map_nil] at hask hat ho hh hch hfd ⊢
      (refine acall_intro (E := env fun _ => .imm) (envOk _) rfl Try.func26 rfl Try.call26 (by kernel_rfl) (by simp [Try.ntmps26]) ?_; simp only [Try.f26];  simp (maxSteps := 4000000) only [↓VP0, ↓VP1, ↓VP2, VQ0, VQ1, VQ2, VQ3, VQ4, VT, ite_self, ite_split, Nat.reduceEqDiff, Nat.reduceAdd, Nat.reduceSub, Nat.reduceMul, Nat.reduceLeDiff, Nat.reduceLT, Nat.reduceBEq, Int.reduceLE, Int.reduceLT, Int.reduceNeg, Int.reduceAdd, Int.reduceSub, Int.reduceToNat, ↓reduceIte, reduceCtorEq])
      repeat' (first | intro _ | refine And.intro ?_ ?_)
      (refine ACall.pure (hask) ?_; try simp (maxSteps := 4000000) only [↓VP0, ↓VP1, ↓VP2, VQ0, VQ1, VQ2, VQ3, VQ4, VT, ite_self, ite_split, Nat.reduceEqDiff, Nat.reduceAdd, Nat.reduceSub, Nat.reduceMul, Nat.reduceLeDiff, Nat.reduceLT, Nat.reduceBEq, Int.reduceLE, Int.reduceLT, Int.reduceNeg, Int.reduceAdd, Int.reduceSub, Int.reduceToNat, ↓reduceIte, reduceCtorEq])
      (refine ACall.pure (hat) ?_; try simp (maxSteps := 4000000) only [↓VP0, ↓VP1, ↓VP2, VQ0, VQ1, VQ2, VQ3, VQ4, VT, ite_self, ite_split, Nat.reduceEqDiff, Nat.reduceAdd, Nat.reduceSub, Nat.reduceMul, Nat.reduceLeDiff, Nat.reduceLT, Nat.reduceBEq, Int.reduceLE, Int.reduceLT, Int.reduceNeg, Int.reduceAdd, Int.reduceSub, Int.reduceToNat, ↓reduceIte, reduceCtorEq])
      simp (maxSteps := 4000000) only [↓VP0, ↓VP1, ↓VP2, VQ0, VQ1, VQ2, VQ3, VQ4, VT, ite_self, ite_split, Nat.reduceEqDiff, Nat.reduceAdd, Nat.reduceSub, Nat.reduceMul, Nat.reduceLeDiff, Nat.reduceLT, Nat.reduceBEq, Int.reduceLE, Int.reduceLT, Int.reduceNeg, Int.reduceAdd, Int.reduceSub, Int.reduceToNat, ↓reduceIte, reduceCtorEq, hn1]
      (refine ACall.pure (ho) ?_; try simp (maxSteps := 4000000) only [↓VP0, ↓VP1, ↓VP2, VQ0, VQ1, VQ2, VQ3, VQ4, VT, ite_self, ite_split, Nat.reduceEqDiff, Nat.reduceAdd, Nat.reduceSub, Nat.reduceMul, Nat.reduceLeDiff, Nat.reduceLT, Nat.reduceBEq, Int.reduceLE, Int.reduceLT, Int.reduceNeg, Int.reduceAdd, Int.reduceSub, Int.reduceToNat, ↓reduceIte, reduceCtorEq])
      (refine ACall.pure (hh) ?_; try simp (maxSteps := 4000000) only [↓VP0, ↓VP1, ↓VP2, VQ0, VQ1, VQ2, VQ3, VQ4, VT, ite_self, ite_split, Nat.reduceEqDiff, Nat.reduceAdd, Nat.reduceSub, Nat.reduceMul, Nat.reduceLeDiff, Nat.reduceLT, Nat.reduceBEq, Int.reduceLE, Int.reduceLT, Int.reduceNeg, Int.reduceAdd, Int.reduceSub, Int.reduceToNat, ↓reduceIte, reduceCtorEq])
      refine aloop (envOk _) (fun k : Nat => ⟨[(1, .v (.int .i64 p)), (3, .v (.eptr [.int .i64 v.words, .int .i64 v.facts, .slice 1 (v.people.map AV.str), .int .i64 v.last, .slice 4 (v.copies.map vcopyA), .slice 2 (v.rules.map vruleA)])), (9, .v (.int .i64 a)), (10, .v (.int .i64 k))], [], [], m⟩)
        (fun k => k ≤ v.words + 1 ∧ ∀ ch ∈ allCh v.words k, keyQ v p a ch = false) (fun k => v.words + 1 - k) 0 (fun _ => rfl) ⟨by omega, by simp [allCh]⟩ (by (simp only [Fits, fitsV, fitsO, fitsL, ↓upd, ↓lookV, ↓lookO, ↓lookL, Nat.reduceEqDiff, ↓reduceIte, ints, and_true, true_and, Option.some.injEq]); simp) ?_
      rintro k ⟨hk', hk1⟩
      simp (maxSteps := 4000000) only [↓VP0, ↓VP1, ↓VP2, VQ0, VQ1, VQ2, VQ3, VQ4, VT, ite_self, ite_split, Nat.reduceEqDiff, Nat.reduceAdd, Nat.reduceSub, Nat.reduceMul, Nat.reduceLeDiff, Nat.reduceLT, Nat.reduceBEq, Int.reduceLE, Int.reduceLT, Int.reduceNeg, Int.reduceAdd, Int.reduceSub, Int.reduceToNat, ↓reduceIte, reduceCtorEq]
      repeat' (first | intro _ | refine And.intro ?_ ?_)
      all_goals try (first | omega | (simp only [List.length_map, List.length_cons, List.length_nil, List.length_append, Nat.zero_add]; omega) | exact Int.natCast_nonneg _ | exact Int.le_trans (by decide) (Int.natCast_nonneg _) | exact Nat.le_of_ble_eq_true rfl)
      · (refine ACall.pure (hch k (by omega)) ?_; try simp (maxSteps := 4000000) only [↓VP0, ↓VP1, ↓VP2, VQ0, VQ1, VQ2, VQ3, VQ4, VT, ite_self, ite_split, Nat.reduceEqDiff, Nat.reduceAdd, Nat.reduceSub, Nat.reduceMul, Nat.reduceLeDiff, Nat.reduceLT, Nat.reduceBEq, Int.reduceLE, Int.reduceLT, Int.reduceNeg, Int.reduceAdd, Int.reduceSub, Int.reduceToNat, ↓reduceIte, reduceCtorEq])
        refine aloop (envOk _) (fun i : Nat => ⟨[(1, .v (.int .i64 p)), (3, .v (.eptr [.int .i64 v.words, .int .i64 v.facts, .slice 1 (v.people.map AV.str), .int .i64 v.last, .slice 4 (v.copies.map vcopyA), .slice 2 (v.rules.map vruleA)])), (9, .v (.int .i64 a)), (10, .v (.int .i64 k)),
            (11, .v (.slice 1 ((choicesL v.words k).map fun x => AV.slice 1 (x.map (AV.int .i64))))), (12, .v (.int .i64 i))], [], [], m⟩)
          (fun i => i ≤ (choicesL v.words k).length ∧ ∀ ch ∈ (choicesL v.words k).take i, keyQ v p a ch = false) (fun i => (choicesL v.words k).length - i) 0 (fun _ => rfl) ⟨by omega, by simp⟩ (by (simp only [Fits, fitsV, fitsO, fitsL, ↓upd, ↓lookV, ↓lookO, ↓lookL, Nat.reduceEqDiff, ↓reduceIte, ints, and_true, true_and, Option.some.injEq]); simp) ?_
        rintro i ⟨hi, hi1⟩
        simp (maxSteps := 4000000) only [↓VP0, ↓VP1, ↓VP2, VQ0, VQ1, VQ2, VQ3, VQ4, VT, ite_self, ite_split, Nat.reduceEqDiff, Nat.reduceAdd, Nat.reduceSub, Nat.reduceMul, Nat.reduceLeDiff, Nat.reduceLT, Nat.reduceBEq, Int.reduceLE, Int.reduceLT, Int.reduceNeg, Int.reduceAdd, Int.reduceSub, Int.reduceToNat, ↓reduceIte, reduceCtorEq]
        repeat' (first | intro _ | refine And.intro ?_ ?_)
        all_goals try (first | omega | (simp only [List.length_map, List.length_cons, List.length_nil, List.length_append, Nat.zero_add]; omega) | exact Int.natCast_nonneg _ | exact Int.le_trans (by decide) (Int.natCast_nonneg _) | exact Nat.le_of_ble_eq_true rfl)
        · have hlt : i < (choicesL v.words k).length := by omega
          have hmem : (choicesL v.words k)[i]! ∈ choicesL v.words k := by rw [getD_any hlt]; exact List.getElem_mem hlt
          obtain ⟨c1, c2⟩ := choices_mem hmem
          have hqc := hq (choicesL v.words k)[i]!
          have hfd' := hfd (choicesL v.words k)[i]! fun w hw => by have := c2 w hw; omega
          have hii := ints_c (foundL v p (choicesL v.words k)[i]!) [(a : Int)]
          rw [← hqc] at hii
          simp only [ints, List.map_cons, List.map_nil] at hii
          (refine adraw (by first | exact envOk _ | exact envCOk _ _ _) mixed [⟨false, false, 0⟩, ⟨false, false, 0⟩, ⟨false, false, 0⟩, ⟨false, false, 0⟩, ⟨false, false, 0⟩, ⟨false, false, 0⟩, ⟨false, false, 0⟩, ⟨false, false, 0⟩, ⟨false, false, 0⟩, ⟨false, false, 0⟩] (by kernel_rfl) ?_; show vcOpsD _ _ _ (_ :: _) _ _)
          simp (maxSteps := 4000000) only [↓VP0, ↓VP1, ↓VP2, VQ0, VQ1, VQ2, VQ3, VQ4, VT, ite_self, ite_split, Nat.reduceEqDiff, Nat.reduceAdd, Nat.reduceSub, Nat.reduceMul, Nat.reduceLeDiff, Nat.reduceLT, Nat.reduceBEq, Int.reduceLE, Int.reduceLT, Int.reduceNeg, Int.reduceAdd, Int.reduceSub, Int.reduceToNat, ↓reduceIte, reduceCtorEq]
          repeat' (first | intro _ | refine And.intro ?_ ?_)
          all_goals try (first | omega | (simp only [List.length_map, List.length_cons, List.length_nil, List.length_append, Nat.zero_add]; omega) | exact Int.natCast_nonneg _ | exact Int.le_trans (by decide) (Int.natCast_nonneg _) | exact Nat.le_of_ble_eq_true rfl)
          (refine ⟨_, hfd', ?_⟩; try simp (maxSteps := 4000000) only [↓VP0, ↓VP1, ↓VP2, VQ0, VQ1, VQ2, VQ3, VQ4, VT, ite_self, ite_split, Nat.reduceEqDiff, Nat.reduceAdd, Nat.reduceSub, Nat.reduceMul, Nat.reduceLeDiff, Nat.reduceLT, Nat.reduceBEq, Int.reduceLE, Int.reduceLT, Int.reduceNeg, Int.reduceAdd, Int.reduceSub, Int.reduceToNat, ↓reduceIte, reduceCtorEq])
          (refine ⟨_, hii, ?_⟩; try simp (maxSteps := 4000000) only [↓VP0, ↓VP1, ↓VP2, VQ0, VQ1, VQ2, VQ3, VQ4, VT, ite_self, ite_split, Nat.reduceEqDiff, Nat.reduceAdd, Nat.reduceSub, Nat.reduceMul, Nat.reduceLeDiff, Nat.reduceLT, Nat.reduceBEq, Int.reduceLE, Int.reduceLT, Int.reduceNeg, Int.reduceAdd, Int.reduceSub, Int.reduceToNat, ↓reduceIte, reduceCtorEq])
          repeat' (first | intro _ | refine And.intro ?_ ?_)
          all_goals try (first | omega | (simp only [List.length_map, List.length_cons, List.length_nil, List.length_append, Nat.zero_add]; omega) | exact Int.natCast_nonneg _ | exact Int.le_trans (by decide) (Int.natCast_nonneg _) | exact Nat.le_of_ble_eq_true rfl)
          · have h1 : keyQ v p a (choicesL v.words k)[i]! = true := by assumption
            rw [hW, search_hit (by omega) hlt hk1 hi1 h1]
          · have h1 : keyQ v p a (choicesL v.words k)[i]! = false := by (first | assumption | (rw [← Bool.not_eq_false]; assumption) | (rw [← Bool.not_eq_true]; assumption) | omega)
            (refine ⟨i + 1, ?_, by dsimp only; omega, ?_⟩; rotate_left 1; · ((simp only [Fits, fitsV, fitsO, fitsL, ↓upd, ↓lookV, ↓lookO, ↓lookL, Nat.reduceEqDiff, ↓reduceIte, ints, and_true, true_and, Option.some.injEq]); try simp []))
            exact ⟨by omega, forall_take_succ hlt hi1 (by rw [← getD_any hlt]; exact h1)⟩
        · have hi2 : (choicesL v.words k).take i = choicesL v.words k := List.take_of_length_le (by omega)
          rw [hi2] at hi1
          (refine ⟨k + 1, ?_, by dsimp only; omega, ?_⟩; rotate_left 1; · ((simp only [Fits, fitsV, fitsO, fitsL, ↓upd, ↓lookV, ↓lookO, ↓lookL, Nat.reduceEqDiff, ↓reduceIte, ints, and_true, true_and, Option.some.injEq]); try simp []))
          refine ⟨by omega, fun ch hc => ?_⟩
          rw [allCh_succ] at hc
          rcases List.mem_append.1 hc with hc | hc
          · exact hk1 ch hc
          · exact hi1 ch hc
      · rw [hW, show searchL v.words (v.words + 1) (keyQ v p a) = none from find_no fun ch hc => hk1 ch (by rw [show k = v.words + 1 by omega]; exact hc)]
        rfl

theorem refkey_top (c : RChest) (hs : namesFit c) (p n : Int) : PCall Try.prog 26 [chestA c, .int .i64 p, .int .i64 n] (.tuple [ints (keyR c p n).1, .int .i64 (keyR c p n).2]) := by
  have hask := asked_c c hs p c.people.length [] 0 fun h => by
    obtain ⟨_, h2, _⟩ := checkR_parts h
    omega
  rw [askedR_nil] at hask
  have hER := enterE_two c p c.people.length
  rw [← hER] at hask
  by_cases h0 : enterE c [p, c.people.length] ≠ 0
  · have hR : keyR c p n = ([], enterE c [p, c.people.length]) := by unfold keyR; rw [if_pos h0]
    rw [hR]
    intro m
    generalize enterE c [p, c.people.length] = e at *
    simp only [chestA, chestL, strs, ints, List.map_nil] at hask ⊢
    (refine acall_intro (E := env fun _ => .imm) (envOk _) rfl Try.func26 rfl Try.call26 (by kernel_rfl) (by simp [Try.ntmps26]) ?_; simp only [Try.f26];  simp (maxSteps := 4000000) only [↓VP0, ↓VP1, ↓VP2, VQ0, VQ1, VQ2, VQ3, VQ4, VT, ite_self, ite_split, Nat.reduceEqDiff, Nat.reduceAdd, Nat.reduceSub, Nat.reduceMul, Nat.reduceLeDiff, Nat.reduceLT, Nat.reduceBEq, Int.reduceLE, Int.reduceLT, Int.reduceNeg, Int.reduceAdd, Int.reduceSub, Int.reduceToNat, ↓reduceIte, reduceCtorEq])
    repeat' (first | intro _ | refine And.intro ?_ ?_)
    (refine ACall.pure (hask) ?_; try simp (maxSteps := 4000000) only [↓VP0, ↓VP1, ↓VP2, VQ0, VQ1, VQ2, VQ3, VQ4, VT, ite_self, ite_split, Nat.reduceEqDiff, Nat.reduceAdd, Nat.reduceSub, Nat.reduceMul, Nat.reduceLeDiff, Nat.reduceLT, Nat.reduceBEq, Int.reduceLE, Int.reduceLT, Int.reduceNeg, Int.reduceAdd, Int.reduceSub, Int.reduceToNat, ↓reduceIte, reduceCtorEq])
    simp (maxSteps := 4000000) only [↓VP0, ↓VP1, ↓VP2, VQ0, VQ1, VQ2, VQ3, VQ4, VT, ite_self, ite_split, Nat.reduceEqDiff, Nat.reduceAdd, Nat.reduceSub, Nat.reduceMul, Nat.reduceLeDiff, Nat.reduceLT, Nat.reduceBEq, Int.reduceLE, Int.reduceLT, Int.reduceNeg, Int.reduceAdd, Int.reduceSub, Int.reduceToNat, ↓reduceIte, reduceCtorEq, h0]
    try rfl
  · have hR : keyR c p n = keyL c.v p.toNat n := by unfold keyR; rw [if_neg h0]
    rw [hR]
    have h0' : enterE c [p, c.people.length] = 0 := by omega
    rw [h0'] at hask
    rw [hER] at h0'
    have q1 : (checkR c).2.2 = 0 := by
      by_cases q : (checkR c).2.2 ≠ 0
      · rw [if_pos q] at h0'; exact absurd h0' q
      · omega
    rw [if_neg (by omega)] at h0'
    have q2 : offP 0 ((c.people.length : Int) - 1) p = false := by
      cases hq : offP 0 ((c.people.length : Int) - 1) p with
      | false => rfl
      | true => rw [hq] at h0'; simp at h0'
    obtain ⟨e1, hv⟩ := valid_v q1
    clear hR h0 h0' hER
    generalize c.v = v at *
    subst e1
    rw [vchestA_raw] at hask ⊢
    rw [offP_false] at q2
    have q2' : 0 ≤ p ∧ p ≤ (v.people.length : Int) - 1 := q2
    have hpn : p = ((p.toNat : Nat) : Int) := by omega
    have := refkey_ok v hv p.toNat n (by omega) (by rw [← hpn]; exact hask)
    rwa [← hpn] at this
end Go.Proofs.Ytakkdmdkelbnjaa.Abs

/- Contracts: the chest of the examples. -/
namespace Go.Proofs.Ytakkdmdkelbnjaa.Abs
set_option linter.unusedSimpArgs false
set_option maxHeartbeats 4000000
set_option maxRecDepth 100000
open Go Go.RowKit Go.Proofs

def exC : RChest := ⟨3, 4, [⟨#[97, 110, 97]⟩, ⟨#[98, 101, 110]⟩], 6, [⟨1, 3, 1, 3⟩, ⟨3, 1, 2, 3⟩, ⟨4, 6, 4, 1⟩, ⟨6, 3, 6, 2⟩], [⟨3, 3⟩]⟩

theorem ex_lost : lostR exC = ([2, 5], 0) := by kernel_rfl
theorem ex_find0 : findR exC 0 [0] = ([0, 1], 0) := by kernel_rfl
theorem ex_find1 : findR exC 1 [0] = ([0, 1, 3], 0) := by kernel_rfl
theorem ex_key1 : keyR exC 0 1 = ([0, 1], 0) := by kernel_rfl
theorem ex_key3 : keyR exC 0 3 = ([], 9) := by kernel_rfl
theorem ex_key14 : keyR exC 1 4 = ([], 2) := by kernel_rfl
theorem ex_key2 : keyR exC 0 2 = ([], 7) := by kernel_rfl
theorem ex_knows : knowsR exC [0, 1] = ([0, 1, 3], 0) := by kernel_rfl
theorem ex_why : whyR exC [0, 1, 2] 3 = ([0, 1], 0) := by kernel_rfl
theorem ex_why2 : whyR exC [2] 3 = ([], 9) := by kernel_rfl
theorem ex_lock : lockR exC 1 1 = ([1, 3], 0) := by kernel_rfl
theorem ex_least : leastR exC 1 = ([0, 3], 0) := by kernel_rfl

theorem ex_names : namesFit exC := by
  intro s hs
  simp only [exC, List.mem_cons, List.not_mem_nil, or_false] at hs
  rcases hs with rfl | rfl <;> decide

theorem chest_c : PCall Try.prog 35 [] (chestA exC) := by
  intro m
  simp only [chestA, chestL, strs, exC, List.map_cons, List.map_nil, copyA, ruleA]
  (refine acall_intro (E := envC (modeAt [0] []) false []) (envCOk _ _ _) rfl Try.func35 rfl Try.call35 (by kernel_rfl) (by simp [Try.ntmps35]) ?_; simp only [Try.f35];  simp (maxSteps := 4000000) only [↓VP0, ↓VP1, ↓VP2, VQ0, VQ1, VQ2, VQ3, VQ4, VT, ite_self, ite_split, Nat.reduceEqDiff, Nat.reduceAdd, Nat.reduceSub, Nat.reduceMul, Nat.reduceLeDiff, Nat.reduceLT, Nat.reduceBEq, Int.reduceLE, Int.reduceLT, Int.reduceNeg, Int.reduceAdd, Int.reduceSub, Int.reduceToNat, ↓reduceIte, reduceCtorEq])
  unfold vcSome
  simp only [buildFrom, placeOf]
  simp (maxSteps := 4000000) only [↓VP0, ↓VP1, ↓VP2, VQ0, VQ1, VQ2, VQ3, VQ4, VT, ite_self, ite_split, Nat.reduceEqDiff, Nat.reduceAdd, Nat.reduceSub, Nat.reduceMul, Nat.reduceLeDiff, Nat.reduceLT, Nat.reduceBEq, Int.reduceLE, Int.reduceLT, Int.reduceNeg, Int.reduceAdd, Int.reduceSub, Int.reduceToNat, ↓reduceIte, reduceCtorEq]

theorem intsT_c (a : List Int) : PCall Try.prog 21 [ints a, ints a] (.bool true) := by
  have := ints_c a a
  rwa [decide_eq_true rfl] at this

theorem awake_c : PCall Try.prog 24 [] (.bool true) := by
  intro m
  have h0 := chest_c
  have h1 := lost_c exC ex_names
  have h2 := find_top exC ex_names 0 [0] (by decide)
  have h3 := find_top exC ex_names 1 [0] (by decide)
  have h4 := key_top exC ex_names 0 1 (by decide)
  have h5 := key_top exC ex_names 0 3 (by decide)
  have h6 := key_top exC ex_names 1 4 (by decide)
  have h7 := key_top exC ex_names 0 2 (by decide)
  have h8 := knows_top exC ex_names [0, 1]
  have h9 := why_top exC ex_names [0, 1, 2] 3
  have h10 := why_top exC ex_names [2] 3
  have h11 := lock_top exC ex_names 1 1 (by decide)
  have h12 := least_top exC ex_names 1 (by decide)
  have i1 := intsT_c [2, 5]
  have i2 := intsT_c [0, 1]
  have i3 := intsT_c [0, 1, 3]
  have i4 := intsT_c [1, 3]
  have i5 := intsT_c [0, 3]
  rw [ex_lost] at h1; rw [ex_find0] at h2; rw [ex_find1] at h3; rw [ex_key1] at h4; rw [ex_key3] at h5; rw [ex_key14] at h6; rw [ex_key2] at h7
  rw [ex_knows] at h8; rw [ex_why] at h9; rw [ex_why2] at h10; rw [ex_lock] at h11; rw [ex_least] at h12
  simp only [chestA, chestL, strs, exC, List.map_cons, List.map_nil, copyA, ruleA, ints] at *
  (refine acall_intro (E := envC (modeAt [1] []) false []) (envCOk _ _ _) rfl Try.func24 rfl Try.call24 (by kernel_rfl) (by simp [Try.ntmps24]) ?_; simp only [Try.f24];  simp (maxSteps := 4000000) only [↓VP0, ↓VP1, ↓VP2, VQ0, VQ1, VQ2, VQ3, VQ4, VT, ite_self, ite_split, Nat.reduceEqDiff, Nat.reduceAdd, Nat.reduceSub, Nat.reduceMul, Nat.reduceLeDiff, Nat.reduceLT, Nat.reduceBEq, Int.reduceLE, Int.reduceLT, Int.reduceNeg, Int.reduceAdd, Int.reduceSub, Int.reduceToNat, ↓reduceIte, reduceCtorEq])
  (refine ACall.pure (h0) ?_; try simp (maxSteps := 4000000) only [↓VP0, ↓VP1, ↓VP2, VQ0, VQ1, VQ2, VQ3, VQ4, VT, ite_self, ite_split, Nat.reduceEqDiff, Nat.reduceAdd, Nat.reduceSub, Nat.reduceMul, Nat.reduceLeDiff, Nat.reduceLT, Nat.reduceBEq, Int.reduceLE, Int.reduceLT, Int.reduceNeg, Int.reduceAdd, Int.reduceSub, Int.reduceToNat, ↓reduceIte, reduceCtorEq])
  (refine ACall.pure (h1) ?_; try simp (maxSteps := 4000000) only [↓VP0, ↓VP1, ↓VP2, VQ0, VQ1, VQ2, VQ3, VQ4, VT, ite_self, ite_split, Nat.reduceEqDiff, Nat.reduceAdd, Nat.reduceSub, Nat.reduceMul, Nat.reduceLeDiff, Nat.reduceLT, Nat.reduceBEq, Int.reduceLE, Int.reduceLT, Int.reduceNeg, Int.reduceAdd, Int.reduceSub, Int.reduceToNat, ↓reduceIte, reduceCtorEq])
  (refine ACall.pure (h2) ?_; try simp (maxSteps := 4000000) only [↓VP0, ↓VP1, ↓VP2, VQ0, VQ1, VQ2, VQ3, VQ4, VT, ite_self, ite_split, Nat.reduceEqDiff, Nat.reduceAdd, Nat.reduceSub, Nat.reduceMul, Nat.reduceLeDiff, Nat.reduceLT, Nat.reduceBEq, Int.reduceLE, Int.reduceLT, Int.reduceNeg, Int.reduceAdd, Int.reduceSub, Int.reduceToNat, ↓reduceIte, reduceCtorEq])
  (refine ACall.pure (h3) ?_; try simp (maxSteps := 4000000) only [↓VP0, ↓VP1, ↓VP2, VQ0, VQ1, VQ2, VQ3, VQ4, VT, ite_self, ite_split, Nat.reduceEqDiff, Nat.reduceAdd, Nat.reduceSub, Nat.reduceMul, Nat.reduceLeDiff, Nat.reduceLT, Nat.reduceBEq, Int.reduceLE, Int.reduceLT, Int.reduceNeg, Int.reduceAdd, Int.reduceSub, Int.reduceToNat, ↓reduceIte, reduceCtorEq])
  (refine ACall.pure (h4) ?_; try simp (maxSteps := 4000000) only [↓VP0, ↓VP1, ↓VP2, VQ0, VQ1, VQ2, VQ3, VQ4, VT, ite_self, ite_split, Nat.reduceEqDiff, Nat.reduceAdd, Nat.reduceSub, Nat.reduceMul, Nat.reduceLeDiff, Nat.reduceLT, Nat.reduceBEq, Int.reduceLE, Int.reduceLT, Int.reduceNeg, Int.reduceAdd, Int.reduceSub, Int.reduceToNat, ↓reduceIte, reduceCtorEq])
  (refine ACall.pure (h5) ?_; try simp (maxSteps := 4000000) only [↓VP0, ↓VP1, ↓VP2, VQ0, VQ1, VQ2, VQ3, VQ4, VT, ite_self, ite_split, Nat.reduceEqDiff, Nat.reduceAdd, Nat.reduceSub, Nat.reduceMul, Nat.reduceLeDiff, Nat.reduceLT, Nat.reduceBEq, Int.reduceLE, Int.reduceLT, Int.reduceNeg, Int.reduceAdd, Int.reduceSub, Int.reduceToNat, ↓reduceIte, reduceCtorEq])
  (refine ACall.pure (h6) ?_; try simp (maxSteps := 4000000) only [↓VP0, ↓VP1, ↓VP2, VQ0, VQ1, VQ2, VQ3, VQ4, VT, ite_self, ite_split, Nat.reduceEqDiff, Nat.reduceAdd, Nat.reduceSub, Nat.reduceMul, Nat.reduceLeDiff, Nat.reduceLT, Nat.reduceBEq, Int.reduceLE, Int.reduceLT, Int.reduceNeg, Int.reduceAdd, Int.reduceSub, Int.reduceToNat, ↓reduceIte, reduceCtorEq])
  (refine ACall.pure (h7) ?_; try simp (maxSteps := 4000000) only [↓VP0, ↓VP1, ↓VP2, VQ0, VQ1, VQ2, VQ3, VQ4, VT, ite_self, ite_split, Nat.reduceEqDiff, Nat.reduceAdd, Nat.reduceSub, Nat.reduceMul, Nat.reduceLeDiff, Nat.reduceLT, Nat.reduceBEq, Int.reduceLE, Int.reduceLT, Int.reduceNeg, Int.reduceAdd, Int.reduceSub, Int.reduceToNat, ↓reduceIte, reduceCtorEq])
  (refine ACall.pure (h8) ?_; try simp (maxSteps := 4000000) only [↓VP0, ↓VP1, ↓VP2, VQ0, VQ1, VQ2, VQ3, VQ4, VT, ite_self, ite_split, Nat.reduceEqDiff, Nat.reduceAdd, Nat.reduceSub, Nat.reduceMul, Nat.reduceLeDiff, Nat.reduceLT, Nat.reduceBEq, Int.reduceLE, Int.reduceLT, Int.reduceNeg, Int.reduceAdd, Int.reduceSub, Int.reduceToNat, ↓reduceIte, reduceCtorEq])
  (refine ACall.pure (h9) ?_; try simp (maxSteps := 4000000) only [↓VP0, ↓VP1, ↓VP2, VQ0, VQ1, VQ2, VQ3, VQ4, VT, ite_self, ite_split, Nat.reduceEqDiff, Nat.reduceAdd, Nat.reduceSub, Nat.reduceMul, Nat.reduceLeDiff, Nat.reduceLT, Nat.reduceBEq, Int.reduceLE, Int.reduceLT, Int.reduceNeg, Int.reduceAdd, Int.reduceSub, Int.reduceToNat, ↓reduceIte, reduceCtorEq])
  (refine ACall.pure (h10) ?_; try simp (maxSteps := 4000000) only [↓VP0, ↓VP1, ↓VP2, VQ0, VQ1, VQ2, VQ3, VQ4, VT, ite_self, ite_split, Nat.reduceEqDiff, Nat.reduceAdd, Nat.reduceSub, Nat.reduceMul, Nat.reduceLeDiff, Nat.reduceLT, Nat.reduceBEq, Int.reduceLE, Int.reduceLT, Int.reduceNeg, Int.reduceAdd, Int.reduceSub, Int.reduceToNat, ↓reduceIte, reduceCtorEq])
  (refine ACall.pure (h11) ?_; try simp (maxSteps := 4000000) only [↓VP0, ↓VP1, ↓VP2, VQ0, VQ1, VQ2, VQ3, VQ4, VT, ite_self, ite_split, Nat.reduceEqDiff, Nat.reduceAdd, Nat.reduceSub, Nat.reduceMul, Nat.reduceLeDiff, Nat.reduceLT, Nat.reduceBEq, Int.reduceLE, Int.reduceLT, Int.reduceNeg, Int.reduceAdd, Int.reduceSub, Int.reduceToNat, ↓reduceIte, reduceCtorEq])
  (refine ACall.pure (h12) ?_; try simp (maxSteps := 4000000) only [↓VP0, ↓VP1, ↓VP2, VQ0, VQ1, VQ2, VQ3, VQ4, VT, ite_self, ite_split, Nat.reduceEqDiff, Nat.reduceAdd, Nat.reduceSub, Nat.reduceMul, Nat.reduceLeDiff, Nat.reduceLT, Nat.reduceBEq, Int.reduceLE, Int.reduceLT, Int.reduceNeg, Int.reduceAdd, Int.reduceSub, Int.reduceToNat, ↓reduceIte, reduceCtorEq])
  simp (maxSteps := 4000000) only [↓VP0, ↓VP1, ↓VP2, VQ0, VQ1, VQ2, VQ3, VQ4, VT, ite_self, ite_split, Nat.reduceEqDiff, Nat.reduceAdd, Nat.reduceSub, Nat.reduceMul, Nat.reduceLeDiff, Nat.reduceLT, Nat.reduceBEq, Int.reduceLE, Int.reduceLT, Int.reduceNeg, Int.reduceAdd, Int.reduceSub, Int.reduceToNat, ↓reduceIte, reduceCtorEq, List.append_eq, eq_self, decide_true, if_true]

  (refine ACall.pure (i1) ?_; try simp (maxSteps := 4000000) only [↓VP0, ↓VP1, ↓VP2, VQ0, VQ1, VQ2, VQ3, VQ4, VT, ite_self, ite_split, Nat.reduceEqDiff, Nat.reduceAdd, Nat.reduceSub, Nat.reduceMul, Nat.reduceLeDiff, Nat.reduceLT, Nat.reduceBEq, Int.reduceLE, Int.reduceLT, Int.reduceNeg, Int.reduceAdd, Int.reduceSub, Int.reduceToNat, ↓reduceIte, reduceCtorEq])
  (refine ACall.pure (i2) ?_; try simp (maxSteps := 4000000) only [↓VP0, ↓VP1, ↓VP2, VQ0, VQ1, VQ2, VQ3, VQ4, VT, ite_self, ite_split, Nat.reduceEqDiff, Nat.reduceAdd, Nat.reduceSub, Nat.reduceMul, Nat.reduceLeDiff, Nat.reduceLT, Nat.reduceBEq, Int.reduceLE, Int.reduceLT, Int.reduceNeg, Int.reduceAdd, Int.reduceSub, Int.reduceToNat, ↓reduceIte, reduceCtorEq])
  (refine ACall.pure (i3) ?_; try simp (maxSteps := 4000000) only [↓VP0, ↓VP1, ↓VP2, VQ0, VQ1, VQ2, VQ3, VQ4, VT, ite_self, ite_split, Nat.reduceEqDiff, Nat.reduceAdd, Nat.reduceSub, Nat.reduceMul, Nat.reduceLeDiff, Nat.reduceLT, Nat.reduceBEq, Int.reduceLE, Int.reduceLT, Int.reduceNeg, Int.reduceAdd, Int.reduceSub, Int.reduceToNat, ↓reduceIte, reduceCtorEq])
  (refine ACall.pure (i2) ?_; try simp (maxSteps := 4000000) only [↓VP0, ↓VP1, ↓VP2, VQ0, VQ1, VQ2, VQ3, VQ4, VT, ite_self, ite_split, Nat.reduceEqDiff, Nat.reduceAdd, Nat.reduceSub, Nat.reduceMul, Nat.reduceLeDiff, Nat.reduceLT, Nat.reduceBEq, Int.reduceLE, Int.reduceLT, Int.reduceNeg, Int.reduceAdd, Int.reduceSub, Int.reduceToNat, ↓reduceIte, reduceCtorEq])
  (refine ACall.pure (i3) ?_; try simp (maxSteps := 4000000) only [↓VP0, ↓VP1, ↓VP2, VQ0, VQ1, VQ2, VQ3, VQ4, VT, ite_self, ite_split, Nat.reduceEqDiff, Nat.reduceAdd, Nat.reduceSub, Nat.reduceMul, Nat.reduceLeDiff, Nat.reduceLT, Nat.reduceBEq, Int.reduceLE, Int.reduceLT, Int.reduceNeg, Int.reduceAdd, Int.reduceSub, Int.reduceToNat, ↓reduceIte, reduceCtorEq])
  (refine ACall.pure (i2) ?_; try simp (maxSteps := 4000000) only [↓VP0, ↓VP1, ↓VP2, VQ0, VQ1, VQ2, VQ3, VQ4, VT, ite_self, ite_split, Nat.reduceEqDiff, Nat.reduceAdd, Nat.reduceSub, Nat.reduceMul, Nat.reduceLeDiff, Nat.reduceLT, Nat.reduceBEq, Int.reduceLE, Int.reduceLT, Int.reduceNeg, Int.reduceAdd, Int.reduceSub, Int.reduceToNat, ↓reduceIte, reduceCtorEq])
  (refine ACall.pure (i4) ?_; try simp (maxSteps := 4000000) only [↓VP0, ↓VP1, ↓VP2, VQ0, VQ1, VQ2, VQ3, VQ4, VT, ite_self, ite_split, Nat.reduceEqDiff, Nat.reduceAdd, Nat.reduceSub, Nat.reduceMul, Nat.reduceLeDiff, Nat.reduceLT, Nat.reduceBEq, Int.reduceLE, Int.reduceLT, Int.reduceNeg, Int.reduceAdd, Int.reduceSub, Int.reduceToNat, ↓reduceIte, reduceCtorEq])
  (refine ACall.pure (i5) ?_; try simp (maxSteps := 4000000) only [↓VP0, ↓VP1, ↓VP2, VQ0, VQ1, VQ2, VQ3, VQ4, VT, ite_self, ite_split, Nat.reduceEqDiff, Nat.reduceAdd, Nat.reduceSub, Nat.reduceMul, Nat.reduceLeDiff, Nat.reduceLT, Nat.reduceBEq, Int.reduceLE, Int.reduceLT, Int.reduceNeg, Int.reduceAdd, Int.reduceSub, Int.reduceToNat, ↓reduceIte, reduceCtorEq])
end Go.Proofs.Ytakkdmdkelbnjaa.Abs
