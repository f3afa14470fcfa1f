/- The statement ShipMore: for any harbour, report, letter and day the law returns true. Conditions: none. -/
import Derived.Test.YtnfmmhmfbipkjaaW13
namespace Go.Proofs.Ytnfmmhmfbipkjaa.Abs
set_option linter.unusedSimpArgs false
set_option maxHeartbeats 4000000
set_option maxRecDepth 100000
open Go Go.RowKit Go.Proofs

theorem shipMore_no (h : RHarb) (hf : HFit h) (hB : h.reports.length * 32 ≤ 140737488351232) (r : RRep) (x y : Nat) (e : ¬ (someB h = true ∧ someB (moreH h r) = true)) : PCall Try.prog 9 [harbA h, repA r, .agg [.int .u8 x, .int .u8 y]] (.bool true) := by
  intro m
  have a1 := some_c h hf.names
  have a2 := some_c (moreH h r) hf.names
  have aw := awake_c
  generalize someB h = b1 at *
  generalize someB (moreH h r) = b2 at *
  simp only [harbA, harbL, ints, moreH, List.map_append, List.map_cons, List.map_nil, repA] at *
  (refine acall_intro (E := envC (modeAt [7, 16, 19] []) false []) (envCOk _ _ _) rfl Try.func9 rfl Try.call9 (by kernel_rfl) (by simp [Try.ntmps9]) ?_; simp only [Try.f9];  simp (maxSteps := 4000000) only [↓VP, VQ, ite_self, Nat.reduceEqDiff, Nat.reduceAdd, Nat.reduceSub, Nat.reduceMul, Nat.reduceLeDiff, Nat.reduceLT, Nat.reduceBEq, Int.reduceLE, Int.reduceLT, Int.reduceNeg, Int.reduceAdd, Int.reduceSub, Int.reduceToNat, ↓reduceIte, reduceCtorEq, ↓ixShip, ↓ixCall, ↓ixLet, ↓ixRep, Int.reduceEq])
  (refine adraw (by first | exact envOk _ | exact envCOk _ _ _) mixed [⟨false, false, 0⟩, ⟨false, false, 0⟩, ⟨false, false, 0⟩, ⟨false, true, 0⟩, ⟨false, false, 0⟩, ⟨false, false, 0⟩, ⟨false, true, 0⟩, ⟨false, false, 0⟩, ⟨false, false, 0⟩] (by kernel_rfl) ?_; show vcOpsD _ _ _ (_ :: _) _ _)
  simp (maxSteps := 4000000) only [↓VP, VQ, ite_self, Nat.reduceEqDiff, Nat.reduceAdd, Nat.reduceSub, Nat.reduceMul, Nat.reduceLeDiff, Nat.reduceLT, Nat.reduceBEq, Int.reduceLE, Int.reduceLT, Int.reduceNeg, Int.reduceAdd, Int.reduceSub, Int.reduceToNat, ↓reduceIte, reduceCtorEq, ↓ixShip, ↓ixCall, ↓ixLet, ↓ixRep]
  repeat' (first | intro _ | refine And.intro ?_ ?_)
  all_goals try (first | omega | (simp only [List.length_map, List.length_cons, List.length_nil, List.length_append, Nat.zero_add]; omega) | exact nnC _ | exact nlC (by decide) _ | exact nbC rfl)
  ((refine ACall.pure (a1) ?_; try simp (maxSteps := 4000000) only [↓VP, VQ, ite_self, Nat.reduceEqDiff, Nat.reduceAdd, Nat.reduceSub, Nat.reduceMul, Nat.reduceLeDiff, Nat.reduceLT, Nat.reduceBEq, Int.reduceLE, Int.reduceLT, Int.reduceNeg, Int.reduceAdd, Int.reduceSub, Int.reduceToNat, ↓reduceIte, reduceCtorEq, ↓ixShip, ↓ixCall, ↓ixLet, ↓ixRep]); try simp (maxSteps := 4000000) only [↓VP, VQ, ite_self, Nat.reduceEqDiff, Nat.reduceAdd, Nat.reduceSub, Nat.reduceMul, Nat.reduceLeDiff, Nat.reduceLT, Nat.reduceBEq, Int.reduceLE, Int.reduceLT, Int.reduceNeg, Int.reduceAdd, Int.reduceSub, Int.reduceToNat, ↓reduceIte, reduceCtorEq, ↓ixShip, ↓ixCall, ↓ixLet, ↓ixRep, eq_self, decide_true, decide_false, if_true, if_false, not_true_eq_false, List.append_eq])
  repeat' (first | intro _ | refine And.intro ?_ ?_)
  all_goals try (first | omega | (simp only [List.length_map, List.length_cons, List.length_nil, List.length_append, Nat.zero_add]; omega) | exact nnC _ | exact nlC (by decide) _ | exact nbC rfl)
  · ((refine ACall.pure (a2) ?_; try simp (maxSteps := 4000000) only [↓VP, VQ, ite_self, Nat.reduceEqDiff, Nat.reduceAdd, Nat.reduceSub, Nat.reduceMul, Nat.reduceLeDiff, Nat.reduceLT, Nat.reduceBEq, Int.reduceLE, Int.reduceLT, Int.reduceNeg, Int.reduceAdd, Int.reduceSub, Int.reduceToNat, ↓reduceIte, reduceCtorEq, ↓ixShip, ↓ixCall, ↓ixLet, ↓ixRep]); try simp (maxSteps := 4000000) only [↓VP, VQ, ite_self, Nat.reduceEqDiff, Nat.reduceAdd, Nat.reduceSub, Nat.reduceMul, Nat.reduceLeDiff, Nat.reduceLT, Nat.reduceBEq, Int.reduceLE, Int.reduceLT, Int.reduceNeg, Int.reduceAdd, Int.reduceSub, Int.reduceToNat, ↓reduceIte, reduceCtorEq, ↓ixShip, ↓ixCall, ↓ixLet, ↓ixRep, eq_self, decide_true, decide_false, if_true, if_false, not_true_eq_false, List.append_eq])
    repeat' (first | intro _ | refine And.intro ?_ ?_)
    all_goals try (first | omega | (simp only [List.length_map, List.length_cons, List.length_nil, List.length_append, Nat.zero_add]; omega) | exact nnC _ | exact nlC (by decide) _ | exact nbC rfl)
    · ((refine ACall.pure (aw) ?_; try simp (maxSteps := 4000000) only [↓VP, VQ, ite_self, Nat.reduceEqDiff, Nat.reduceAdd, Nat.reduceSub, Nat.reduceMul, Nat.reduceLeDiff, Nat.reduceLT, Nat.reduceBEq, Int.reduceLE, Int.reduceLT, Int.reduceNeg, Int.reduceAdd, Int.reduceSub, Int.reduceToNat, ↓reduceIte, reduceCtorEq, ↓ixShip, ↓ixCall, ↓ixLet, ↓ixRep]); try simp (maxSteps := 4000000) only [↓VP, VQ, ite_self, Nat.reduceEqDiff, Nat.reduceAdd, Nat.reduceSub, Nat.reduceMul, Nat.reduceLeDiff, Nat.reduceLT, Nat.reduceBEq, Int.reduceLE, Int.reduceLT, Int.reduceNeg, Int.reduceAdd, Int.reduceSub, Int.reduceToNat, ↓reduceIte, reduceCtorEq, ↓ixShip, ↓ixCall, ↓ixLet, ↓ixRep, eq_self, decide_true, decide_false, if_true, if_false, not_true_eq_false, List.append_eq])
    · exfalso
      exact e ⟨by assumption, by first | assumption | (rw [← Bool.not_eq_false]; assumption)⟩
  · ((refine ACall.pure (aw) ?_; try simp (maxSteps := 4000000) only [↓VP, VQ, ite_self, Nat.reduceEqDiff, Nat.reduceAdd, Nat.reduceSub, Nat.reduceMul, Nat.reduceLeDiff, Nat.reduceLT, Nat.reduceBEq, Int.reduceLE, Int.reduceLT, Int.reduceNeg, Int.reduceAdd, Int.reduceSub, Int.reduceToNat, ↓reduceIte, reduceCtorEq, ↓ixShip, ↓ixCall, ↓ixLet, ↓ixRep]); try simp (maxSteps := 4000000) only [↓VP, VQ, ite_self, Nat.reduceEqDiff, Nat.reduceAdd, Nat.reduceSub, Nat.reduceMul, Nat.reduceLeDiff, Nat.reduceLT, Nat.reduceBEq, Int.reduceLE, Int.reduceLT, Int.reduceNeg, Int.reduceAdd, Int.reduceSub, Int.reduceToNat, ↓reduceIte, reduceCtorEq, ↓ixShip, ↓ixCall, ↓ixLet, ↓ixRep, eq_self, decide_true, decide_false, if_true, if_false, not_true_eq_false, List.append_eq])

theorem shipMore_ok (h : RHarb) (hf : HFit h) (hB : h.reports.length * 32 ≤ 140737488351232) (r : RRep) (x y : Nat) (hx : x < 256) (hy : y < 256) (e : someB h = true) (e' : someB (moreH h r) = true) : PCall Try.prog 9 [harbA h, repA r, .agg [.int .u8 x, .int .u8 y]] (.bool true) := by
  intro m
  have hh := hok_check (some_check e)
  have hn := hh.n
  have hnl := hh.nl
  have hp := hh.p
  have a1 := some_c h hf.names
  have a2 := some_c (moreH h r) hf.names
  rw [e] at a1
  rw [e'] at a2
  have aw := awake_c
  obtain ⟨k1, k2, k3, k4⟩ := sunk_more e e'
  have s1 := sunk_top h hf.names
  have s2 := sunk_top (moreH h r) hf.names
  have b1 := subset_c (sunkR h).1 (sunkR (moreH h r)).1
  have b2 := subset_c (sunkR (moreH h r)).2.1 (sunkR h).2.1
  rw [k1] at s1
  rw [k2] at s2
  rw [k3] at b1
  rw [k4] at b2
  have c1 := fun s p : Nat => callsP_c h hf.names s p hf.ports
  have c2 := fun s p : Nat => callsP_c (moreH h r) hf.names s p hf.ports
  have wi := fun s p : Nat => within_c (callsR (moreH h r) s p).1 (callsR h s p).1 (callsR (moreH h r) s p).2.1
  have lc := fun (s p : Nat) (hs : s < h.ships.length) (q : (p : Int) ≤ h.ports - 1) => calls_more e e' hs (port := (p : Int)) ⟨by omega, q⟩
  have hL := fun (q : 0 < h.letters.length) => Nat.mod_lt x q
  have hD : y % 61 < 61 := Nat.mod_lt _ (by decide)
  have hmod := natMod x h.letters.length
  have m61 := natMod61 y
  generalize x % h.letters.length = L at *
  generalize y % 61 = D at *
  have p1 := by_top h hf.names L
  have p2 := by_top (moreH h r) hf.names L
  have o1 := come_top h hf.names L D
  have o2 := come_top (moreH h r) hf.names L D
  have lb := fun (q : 0 < h.letters.length) => by_more e e' (hL q)
  have lm := fun (q : 0 < h.letters.length) => come_more e e' (hL q) (d := (D : Int)) ⟨by omega, by omega⟩
  have b3 := subset_c (byR (moreH h r) L).1 (byR h L).1
  generalize sunkR h = S1 at *
  generalize hS2 : sunkR (moreH h r) = S2 at *
  generalize byR h L = B1 at *
  generalize hB2 : byR (moreH h r) L = B2 at *
  generalize comeR h L D = O1 at *
  generalize hO2 : comeR (moreH h r) L D = O2 at *
  generalize callsR h = C1 at *
  generalize hC2 : callsR (moreH h r) = C2 at *
  clear hS2 hB2 hO2 hC2 e'
  simp only [harbA, harbL, ints, moreH, List.map_append, List.map_cons, List.map_nil, repA] at *
  (refine acall_intro (E := envC (modeAt [7, 16, 19] []) false []) (envCOk _ _ _) rfl Try.func9 rfl Try.call9 (by kernel_rfl) (by simp [Try.ntmps9]) ?_; simp only [Try.f9];  simp (maxSteps := 4000000) only [↓VP, VQ, ite_self, Nat.reduceEqDiff, Nat.reduceAdd, Nat.reduceSub, Nat.reduceMul, Nat.reduceLeDiff, Nat.reduceLT, Nat.reduceBEq, Int.reduceLE, Int.reduceLT, Int.reduceNeg, Int.reduceAdd, Int.reduceSub, Int.reduceToNat, ↓reduceIte, reduceCtorEq, ↓ixShip, ↓ixCall, ↓ixLet, ↓ixRep, Int.reduceEq])
  (refine adraw (by first | exact envOk _ | exact envCOk _ _ _) mixed [⟨false, false, 0⟩, ⟨false, false, 0⟩, ⟨false, false, 0⟩, ⟨false, true, 0⟩, ⟨false, false, 0⟩, ⟨false, false, 0⟩, ⟨false, true, 0⟩, ⟨false, false, 0⟩, ⟨false, false, 0⟩] (by kernel_rfl) ?_; show vcOpsD _ _ _ (_ :: _) _ _)
  simp (maxSteps := 4000000) only [↓VP, VQ, ite_self, Nat.reduceEqDiff, Nat.reduceAdd, Nat.reduceSub, Nat.reduceMul, Nat.reduceLeDiff, Nat.reduceLT, Nat.reduceBEq, Int.reduceLE, Int.reduceLT, Int.reduceNeg, Int.reduceAdd, Int.reduceSub, Int.reduceToNat, ↓reduceIte, reduceCtorEq, ↓ixShip, ↓ixCall, ↓ixLet, ↓ixRep]
  repeat' (first | intro _ | refine And.intro ?_ ?_)
  all_goals try (first | omega | (simp only [List.length_map, List.length_cons, List.length_nil, List.length_append, Nat.zero_add]; omega) | exact nnC _ | exact nlC (by decide) _ | exact nbC rfl)
  ((refine ACall.pure (a1) ?_; try simp (maxSteps := 4000000) only [↓VP, VQ, ite_self, Nat.reduceEqDiff, Nat.reduceAdd, Nat.reduceSub, Nat.reduceMul, Nat.reduceLeDiff, Nat.reduceLT, Nat.reduceBEq, Int.reduceLE, Int.reduceLT, Int.reduceNeg, Int.reduceAdd, Int.reduceSub, Int.reduceToNat, ↓reduceIte, reduceCtorEq, ↓ixShip, ↓ixCall, ↓ixLet, ↓ixRep]); try simp (maxSteps := 4000000) only [↓VP, VQ, ite_self, Nat.reduceEqDiff, Nat.reduceAdd, Nat.reduceSub, Nat.reduceMul, Nat.reduceLeDiff, Nat.reduceLT, Nat.reduceBEq, Int.reduceLE, Int.reduceLT, Int.reduceNeg, Int.reduceAdd, Int.reduceSub, Int.reduceToNat, ↓reduceIte, reduceCtorEq, ↓ixShip, ↓ixCall, ↓ixLet, ↓ixRep, eq_self, decide_true, decide_false, if_true, if_false, not_true_eq_false, List.append_eq])
  ((refine ACall.pure (a2) ?_; try simp (maxSteps := 4000000) only [↓VP, VQ, ite_self, Nat.reduceEqDiff, Nat.reduceAdd, Nat.reduceSub, Nat.reduceMul, Nat.reduceLeDiff, Nat.reduceLT, Nat.reduceBEq, Int.reduceLE, Int.reduceLT, Int.reduceNeg, Int.reduceAdd, Int.reduceSub, Int.reduceToNat, ↓reduceIte, reduceCtorEq, ↓ixShip, ↓ixCall, ↓ixLet, ↓ixRep]); try simp (maxSteps := 4000000) only [↓VP, VQ, ite_self, Nat.reduceEqDiff, Nat.reduceAdd, Nat.reduceSub, Nat.reduceMul, Nat.reduceLeDiff, Nat.reduceLT, Nat.reduceBEq, Int.reduceLE, Int.reduceLT, Int.reduceNeg, Int.reduceAdd, Int.reduceSub, Int.reduceToNat, ↓reduceIte, reduceCtorEq, ↓ixShip, ↓ixCall, ↓ixLet, ↓ixRep, eq_self, decide_true, decide_false, if_true, if_false, not_true_eq_false, List.append_eq])
  ((refine ACall.pure (s1) ?_; try simp (maxSteps := 4000000) only [↓VP, VQ, ite_self, Nat.reduceEqDiff, Nat.reduceAdd, Nat.reduceSub, Nat.reduceMul, Nat.reduceLeDiff, Nat.reduceLT, Nat.reduceBEq, Int.reduceLE, Int.reduceLT, Int.reduceNeg, Int.reduceAdd, Int.reduceSub, Int.reduceToNat, ↓reduceIte, reduceCtorEq, ↓ixShip, ↓ixCall, ↓ixLet, ↓ixRep]); try simp (maxSteps := 4000000) only [↓VP, VQ, ite_self, Nat.reduceEqDiff, Nat.reduceAdd, Nat.reduceSub, Nat.reduceMul, Nat.reduceLeDiff, Nat.reduceLT, Nat.reduceBEq, Int.reduceLE, Int.reduceLT, Int.reduceNeg, Int.reduceAdd, Int.reduceSub, Int.reduceToNat, ↓reduceIte, reduceCtorEq, ↓ixShip, ↓ixCall, ↓ixLet, ↓ixRep, eq_self, decide_true, decide_false, if_true, if_false, not_true_eq_false, List.append_eq])
  ((refine ACall.pure (s2) ?_; try simp (maxSteps := 4000000) only [↓VP, VQ, ite_self, Nat.reduceEqDiff, Nat.reduceAdd, Nat.reduceSub, Nat.reduceMul, Nat.reduceLeDiff, Nat.reduceLT, Nat.reduceBEq, Int.reduceLE, Int.reduceLT, Int.reduceNeg, Int.reduceAdd, Int.reduceSub, Int.reduceToNat, ↓reduceIte, reduceCtorEq, ↓ixShip, ↓ixCall, ↓ixLet, ↓ixRep]); try simp (maxSteps := 4000000) only [↓VP, VQ, ite_self, Nat.reduceEqDiff, Nat.reduceAdd, Nat.reduceSub, Nat.reduceMul, Nat.reduceLeDiff, Nat.reduceLT, Nat.reduceBEq, Int.reduceLE, Int.reduceLT, Int.reduceNeg, Int.reduceAdd, Int.reduceSub, Int.reduceToNat, ↓reduceIte, reduceCtorEq, ↓ixShip, ↓ixCall, ↓ixLet, ↓ixRep, eq_self, decide_true, decide_false, if_true, if_false, not_true_eq_false, List.append_eq])
  ((refine ACall.pure (b1) ?_; try simp (maxSteps := 4000000) only [↓VP, VQ, ite_self, Nat.reduceEqDiff, Nat.reduceAdd, Nat.reduceSub, Nat.reduceMul, Nat.reduceLeDiff, Nat.reduceLT, Nat.reduceBEq, Int.reduceLE, Int.reduceLT, Int.reduceNeg, Int.reduceAdd, Int.reduceSub, Int.reduceToNat, ↓reduceIte, reduceCtorEq, ↓ixShip, ↓ixCall, ↓ixLet, ↓ixRep]); try simp (maxSteps := 4000000) only [↓VP, VQ, ite_self, Nat.reduceEqDiff, Nat.reduceAdd, Nat.reduceSub, Nat.reduceMul, Nat.reduceLeDiff, Nat.reduceLT, Nat.reduceBEq, Int.reduceLE, Int.reduceLT, Int.reduceNeg, Int.reduceAdd, Int.reduceSub, Int.reduceToNat, ↓reduceIte, reduceCtorEq, ↓ixShip, ↓ixCall, ↓ixLet, ↓ixRep, eq_self, decide_true, decide_false, if_true, if_false, not_true_eq_false, List.append_eq])
  ((refine ACall.pure (b2) ?_; try simp (maxSteps := 4000000) only [↓VP, VQ, ite_self, Nat.reduceEqDiff, Nat.reduceAdd, Nat.reduceSub, Nat.reduceMul, Nat.reduceLeDiff, Nat.reduceLT, Nat.reduceBEq, Int.reduceLE, Int.reduceLT, Int.reduceNeg, Int.reduceAdd, Int.reduceSub, Int.reduceToNat, ↓reduceIte, reduceCtorEq, ↓ixShip, ↓ixCall, ↓ixLet, ↓ixRep]); try simp (maxSteps := 4000000) only [↓VP, VQ, ite_self, Nat.reduceEqDiff, Nat.reduceAdd, Nat.reduceSub, Nat.reduceMul, Nat.reduceLeDiff, Nat.reduceLT, Nat.reduceBEq, Int.reduceLE, Int.reduceLT, Int.reduceNeg, Int.reduceAdd, Int.reduceSub, Int.reduceToNat, ↓reduceIte, reduceCtorEq, ↓ixShip, ↓ixCall, ↓ixLet, ↓ixRep, eq_self, decide_true, decide_false, if_true, if_false, not_true_eq_false, List.append_eq])
  refine ALoop.freeze 7 ?_
  simp (maxSteps := 4000000) only [↓VP, VQ, ite_self, Nat.reduceEqDiff, Nat.reduceAdd, Nat.reduceSub, Nat.reduceMul, Nat.reduceLeDiff, Nat.reduceLT, Nat.reduceBEq, Int.reduceLE, Int.reduceLT, Int.reduceNeg, Int.reduceAdd, Int.reduceSub, Int.reduceToNat, ↓reduceIte, reduceCtorEq, ↓ixShip, ↓ixCall, ↓ixLet, ↓ixRep]
  generalize hRR : List.map repA h.reports ++ [_] = RR at *
  refine aloop (envCOk _ _ _) (fun s : Nat => ⟨[(3, .v (.eptr [.int .i64 h.ports, .int .i64 h.lost, .slice 5 (h.ships.map shipA), .slice 3 (h.letters.map letA), .slice 4 (h.reports.map repA)])), (5, .v (.eptr [.int .u8 x, .int .u8 y])), (7, .v (.eptr [.int .i64 h.ports, .int .i64 h.lost, .slice 5 (h.ships.map shipA), .slice 3 (h.letters.map letA), .slice 4 RR])), (14, .v (.int .i64 s))], [], [], m⟩)
    (fun s => s ≤ h.ships.length) (fun s => h.ships.length - s) 0 (fun _ => rfl) (by simp) (by (simp only [Fits, fitsV, fitsO, fitsL, ↓upd, ↓lookV, ↓lookO, ↓lookL, Nat.reduceEqDiff, ↓reduceIte, ints, and_true, true_and, Option.some.injEq]); simp) ?_
  intro s hsl
  have c1s := c1 s
  have c2s := c2 s
  have wis := wi s
  have lcs := lc s
  simp (maxSteps := 4000000) only [↓VP, VQ, ite_self, Nat.reduceEqDiff, Nat.reduceAdd, Nat.reduceSub, Nat.reduceMul, Nat.reduceLeDiff, Nat.reduceLT, Nat.reduceBEq, Int.reduceLE, Int.reduceLT, Int.reduceNeg, Int.reduceAdd, Int.reduceSub, Int.reduceToNat, ↓reduceIte, reduceCtorEq, ↓ixShip, ↓ixCall, ↓ixLet, ↓ixRep]
  repeat' (first | intro _ | refine And.intro ?_ ?_)
  all_goals try (first | omega | (simp only [List.length_map, List.length_cons, List.length_nil, List.length_append, Nat.zero_add]; omega) | exact nnC _ | exact nlC (by decide) _ | exact nbC rfl)
  · have hs : s < h.ships.length := by omega
    refine aloop (envCOk _ _ _) (fun p : Nat => ⟨[(3, .v (.eptr [.int .i64 h.ports, .int .i64 h.lost, .slice 5 (h.ships.map shipA), .slice 3 (h.letters.map letA), .slice 4 (h.reports.map repA)])), (5, .v (.eptr [.int .u8 x, .int .u8 y])), (7, .v (.eptr [.int .i64 h.ports, .int .i64 h.lost, .slice 5 (h.ships.map shipA), .slice 3 (h.letters.map letA), .slice 4 RR])), (14, .v (.int .i64 s)), (15, .v (.int .i64 p))], [], [], m⟩)
      (fun p => p ≤ h.ports.toNat) (fun p => h.ports.toNat - p) 0 (fun _ => rfl) (by simp) (by (simp only [Fits, fitsV, fitsO, fitsL, ↓upd, ↓lookV, ↓lookO, ↓lookL, Nat.reduceEqDiff, ↓reduceIte, ints, and_true, true_and, Option.some.injEq]); simp) ?_
    intro p hpp
    have c1p := c1s p
    have c2p := c2s p
    have wip := wis p
    have lcp := lcs p hs
    simp (maxSteps := 4000000) only [↓VP, VQ, ite_self, Nat.reduceEqDiff, Nat.reduceAdd, Nat.reduceSub, Nat.reduceMul, Nat.reduceLeDiff, Nat.reduceLT, Nat.reduceBEq, Int.reduceLE, Int.reduceLT, Int.reduceNeg, Int.reduceAdd, Int.reduceSub, Int.reduceToNat, ↓reduceIte, reduceCtorEq, ↓ixShip, ↓ixCall, ↓ixLet, ↓ixRep]
    repeat' (first | intro _ | refine And.intro ?_ ?_)
    all_goals try (first | omega | (simp only [List.length_map, List.length_cons, List.length_nil, List.length_append, Nat.zero_add]; omega) | exact nnC _ | exact nlC (by decide) _ | exact nbC rfl)
    · obtain ⟨q1, q2, q3, q4⟩ := lcp (by omega)
      rw [q1] at c1p
      rw [q2] at c2p
      rw [q3] at wip
      generalize C1 (s : Int) (p : Int) = c1v at *
      generalize C2 (s : Int) (p : Int) = c2v at *
      ((refine ACall.pure (c1p) ?_; try simp (maxSteps := 4000000) only [↓VP, VQ, ite_self, Nat.reduceEqDiff, Nat.reduceAdd, Nat.reduceSub, Nat.reduceMul, Nat.reduceLeDiff, Nat.reduceLT, Nat.reduceBEq, Int.reduceLE, Int.reduceLT, Int.reduceNeg, Int.reduceAdd, Int.reduceSub, Int.reduceToNat, ↓reduceIte, reduceCtorEq, ↓ixShip, ↓ixCall, ↓ixLet, ↓ixRep]); try simp (maxSteps := 4000000) only [↓VP, VQ, ite_self, Nat.reduceEqDiff, Nat.reduceAdd, Nat.reduceSub, Nat.reduceMul, Nat.reduceLeDiff, Nat.reduceLT, Nat.reduceBEq, Int.reduceLE, Int.reduceLT, Int.reduceNeg, Int.reduceAdd, Int.reduceSub, Int.reduceToNat, ↓reduceIte, reduceCtorEq, ↓ixShip, ↓ixCall, ↓ixLet, ↓ixRep, eq_self, decide_true, decide_false, if_true, if_false, not_true_eq_false, List.append_eq])
      ((refine ACall.pure (c2p) ?_; try simp (maxSteps := 4000000) only [↓VP, VQ, ite_self, Nat.reduceEqDiff, Nat.reduceAdd, Nat.reduceSub, Nat.reduceMul, Nat.reduceLeDiff, Nat.reduceLT, Nat.reduceBEq, Int.reduceLE, Int.reduceLT, Int.reduceNeg, Int.reduceAdd, Int.reduceSub, Int.reduceToNat, ↓reduceIte, reduceCtorEq, ↓ixShip, ↓ixCall, ↓ixLet, ↓ixRep]); try simp (maxSteps := 4000000) only [↓VP, VQ, ite_self, Nat.reduceEqDiff, Nat.reduceAdd, Nat.reduceSub, Nat.reduceMul, Nat.reduceLeDiff, Nat.reduceLT, Nat.reduceBEq, Int.reduceLE, Int.reduceLT, Int.reduceNeg, Int.reduceAdd, Int.reduceSub, Int.reduceToNat, ↓reduceIte, reduceCtorEq, ↓ixShip, ↓ixCall, ↓ixLet, ↓ixRep, eq_self, decide_true, decide_false, if_true, if_false, not_true_eq_false, List.append_eq])
      ((refine ACall.pure (wip) ?_; try simp (maxSteps := 4000000) only [↓VP, VQ, ite_self, Nat.reduceEqDiff, Nat.reduceAdd, Nat.reduceSub, Nat.reduceMul, Nat.reduceLeDiff, Nat.reduceLT, Nat.reduceBEq, Int.reduceLE, Int.reduceLT, Int.reduceNeg, Int.reduceAdd, Int.reduceSub, Int.reduceToNat, ↓reduceIte, reduceCtorEq, ↓ixShip, ↓ixCall, ↓ixLet, ↓ixRep]); try simp (maxSteps := 4000000) only [↓VP, VQ, ite_self, Nat.reduceEqDiff, Nat.reduceAdd, Nat.reduceSub, Nat.reduceMul, Nat.reduceLeDiff, Nat.reduceLT, Nat.reduceBEq, Int.reduceLE, Int.reduceLT, Int.reduceNeg, Int.reduceAdd, Int.reduceSub, Int.reduceToNat, ↓reduceIte, reduceCtorEq, ↓ixShip, ↓ixCall, ↓ixLet, ↓ixRep, eq_self, decide_true, decide_false, if_true, if_false, not_true_eq_false, List.append_eq])
      repeat' (first | intro _ | refine And.intro ?_ ?_)
      all_goals try (first | omega | (simp only [List.length_map, List.length_cons, List.length_nil, List.length_append, Nat.zero_add]; omega) | exact nnC _ | exact nlC (by decide) _ | exact nbC rfl)
      all_goals first
        | ((refine ⟨p + 1, by first | omega | (dsimp only; omega), by dsimp only; omega, ?_⟩; (simp only [Fits, fitsV, fitsO, fitsL, ↓upd, ↓lookV, ↓lookO, ↓lookL, Nat.reduceEqDiff, ↓reduceIte, ints, and_true, true_and, Option.some.injEq]); try simp []); done)
        | (exfalso; simp_all; done)
    · (refine ⟨s + 1, by first | omega | (dsimp only; omega), by dsimp only; omega, ?_⟩; (simp only [Fits, fitsV, fitsO, fitsL, ↓upd, ↓lookV, ↓lookO, ↓lookL, Nat.reduceEqDiff, ↓reduceIte, ints, and_true, true_and, Option.some.injEq]); try simp [])
  · ((refine ACall.pure (aw) ?_; try simp (maxSteps := 4000000) only [↓VP, VQ, ite_self, Nat.reduceEqDiff, Nat.reduceAdd, Nat.reduceSub, Nat.reduceMul, Nat.reduceLeDiff, Nat.reduceLT, Nat.reduceBEq, Int.reduceLE, Int.reduceLT, Int.reduceNeg, Int.reduceAdd, Int.reduceSub, Int.reduceToNat, ↓reduceIte, reduceCtorEq, ↓ixShip, ↓ixCall, ↓ixLet, ↓ixRep]); try simp (maxSteps := 4000000) only [↓VP, VQ, ite_self, Nat.reduceEqDiff, Nat.reduceAdd, Nat.reduceSub, Nat.reduceMul, Nat.reduceLeDiff, Nat.reduceLT, Nat.reduceBEq, Int.reduceLE, Int.reduceLT, Int.reduceNeg, Int.reduceAdd, Int.reduceSub, Int.reduceToNat, ↓reduceIte, reduceCtorEq, ↓ixShip, ↓ixCall, ↓ixLet, ↓ixRep, eq_self, decide_true, decide_false, if_true, if_false, not_true_eq_false, List.append_eq])
  · have hl0 : 0 < h.letters.length := by omega
    obtain ⟨q1, q2, q3⟩ := lb hl0
    obtain ⟨q4, q5, q6⟩ := lm hl0
    have hLl := hL hl0
    rw [q1] at p1
    rw [q2] at p2
    rw [q3] at b3
    rw [q4] at o1
    rw [q5] at o2
    (refine adraw (by first | exact envOk _ | exact envCOk _ _ _) mixed [⟨false, false, 0⟩, ⟨false, false, 0⟩, ⟨false, false, 0⟩, ⟨false, false, 0⟩, ⟨false, false, 0⟩, ⟨false, false, 0⟩, ⟨false, false, 0⟩, ⟨false, false, 0⟩, ⟨false, false, 0⟩, ⟨false, false, 0⟩, ⟨false, false, 0⟩, ⟨false, false, 0⟩, ⟨false, false, 0⟩] (by kernel_rfl) ?_; show vcOpsD _ _ _ (_ :: _) _ _)
    simp (maxSteps := 4000000) only [↓VP, VQ, ite_self, Nat.reduceEqDiff, Nat.reduceAdd, Nat.reduceSub, Nat.reduceMul, Nat.reduceLeDiff, Nat.reduceLT, Nat.reduceBEq, Int.reduceLE, Int.reduceLT, Int.reduceNeg, Int.reduceAdd, Int.reduceSub, Int.reduceToNat, ↓reduceIte, reduceCtorEq, ↓ixShip, ↓ixCall, ↓ixLet, ↓ixRep, hmod, m61]
    repeat' (first | intro _ | refine And.intro ?_ ?_)
    all_goals try (first | omega | (simp only [List.length_map, List.length_cons, List.length_nil, List.length_append, Nat.zero_add]; omega) | exact nnC _ | exact nlC (by decide) _ | exact nbC rfl)
    ((refine ACall.pure (p1) ?_; try simp (maxSteps := 4000000) only [↓VP, VQ, ite_self, Nat.reduceEqDiff, Nat.reduceAdd, Nat.reduceSub, Nat.reduceMul, Nat.reduceLeDiff, Nat.reduceLT, Nat.reduceBEq, Int.reduceLE, Int.reduceLT, Int.reduceNeg, Int.reduceAdd, Int.reduceSub, Int.reduceToNat, ↓reduceIte, reduceCtorEq, ↓ixShip, ↓ixCall, ↓ixLet, ↓ixRep]); try simp (maxSteps := 4000000) only [↓VP, VQ, ite_self, Nat.reduceEqDiff, Nat.reduceAdd, Nat.reduceSub, Nat.reduceMul, Nat.reduceLeDiff, Nat.reduceLT, Nat.reduceBEq, Int.reduceLE, Int.reduceLT, Int.reduceNeg, Int.reduceAdd, Int.reduceSub, Int.reduceToNat, ↓reduceIte, reduceCtorEq, ↓ixShip, ↓ixCall, ↓ixLet, ↓ixRep, eq_self, decide_true, decide_false, if_true, if_false, not_true_eq_false, List.append_eq])
    ((refine ACall.pure (p2) ?_; try simp (maxSteps := 4000000) only [↓VP, VQ, ite_self, Nat.reduceEqDiff, Nat.reduceAdd, Nat.reduceSub, Nat.reduceMul, Nat.reduceLeDiff, Nat.reduceLT, Nat.reduceBEq, Int.reduceLE, Int.reduceLT, Int.reduceNeg, Int.reduceAdd, Int.reduceSub, Int.reduceToNat, ↓reduceIte, reduceCtorEq, ↓ixShip, ↓ixCall, ↓ixLet, ↓ixRep]); try simp (maxSteps := 4000000) only [↓VP, VQ, ite_self, Nat.reduceEqDiff, Nat.reduceAdd, Nat.reduceSub, Nat.reduceMul, Nat.reduceLeDiff, Nat.reduceLT, Nat.reduceBEq, Int.reduceLE, Int.reduceLT, Int.reduceNeg, Int.reduceAdd, Int.reduceSub, Int.reduceToNat, ↓reduceIte, reduceCtorEq, ↓ixShip, ↓ixCall, ↓ixLet, ↓ixRep, eq_self, decide_true, decide_false, if_true, if_false, not_true_eq_false, List.append_eq])
    ((refine ACall.pure (o1) ?_; try simp (maxSteps := 4000000) only [↓VP, VQ, ite_self, Nat.reduceEqDiff, Nat.reduceAdd, Nat.reduceSub, Nat.reduceMul, Nat.reduceLeDiff, Nat.reduceLT, Nat.reduceBEq, Int.reduceLE, Int.reduceLT, Int.reduceNeg, Int.reduceAdd, Int.reduceSub, Int.reduceToNat, ↓reduceIte, reduceCtorEq, ↓ixShip, ↓ixCall, ↓ixLet, ↓ixRep]); try simp (maxSteps := 4000000) only [↓VP, VQ, ite_self, Nat.reduceEqDiff, Nat.reduceAdd, Nat.reduceSub, Nat.reduceMul, Nat.reduceLeDiff, Nat.reduceLT, Nat.reduceBEq, Int.reduceLE, Int.reduceLT, Int.reduceNeg, Int.reduceAdd, Int.reduceSub, Int.reduceToNat, ↓reduceIte, reduceCtorEq, ↓ixShip, ↓ixCall, ↓ixLet, ↓ixRep, eq_self, decide_true, decide_false, if_true, if_false, not_true_eq_false, List.append_eq])
    ((refine ACall.pure (o2) ?_; try simp (maxSteps := 4000000) only [↓VP, VQ, ite_self, Nat.reduceEqDiff, Nat.reduceAdd, Nat.reduceSub, Nat.reduceMul, Nat.reduceLeDiff, Nat.reduceLT, Nat.reduceBEq, Int.reduceLE, Int.reduceLT, Int.reduceNeg, Int.reduceAdd, Int.reduceSub, Int.reduceToNat, ↓reduceIte, reduceCtorEq, ↓ixShip, ↓ixCall, ↓ixLet, ↓ixRep]); try simp (maxSteps := 4000000) only [↓VP, VQ, ite_self, Nat.reduceEqDiff, Nat.reduceAdd, Nat.reduceSub, Nat.reduceMul, Nat.reduceLeDiff, Nat.reduceLT, Nat.reduceBEq, Int.reduceLE, Int.reduceLT, Int.reduceNeg, Int.reduceAdd, Int.reduceSub, Int.reduceToNat, ↓reduceIte, reduceCtorEq, ↓ixShip, ↓ixCall, ↓ixLet, ↓ixRep, eq_self, decide_true, decide_false, if_true, if_false, not_true_eq_false, List.append_eq])
    ((refine ACall.pure (b3) ?_; try simp (maxSteps := 4000000) only [↓VP, VQ, ite_self, Nat.reduceEqDiff, Nat.reduceAdd, Nat.reduceSub, Nat.reduceMul, Nat.reduceLeDiff, Nat.reduceLT, Nat.reduceBEq, Int.reduceLE, Int.reduceLT, Int.reduceNeg, Int.reduceAdd, Int.reduceSub, Int.reduceToNat, ↓reduceIte, reduceCtorEq, ↓ixShip, ↓ixCall, ↓ixLet, ↓ixRep]); try simp (maxSteps := 4000000) only [↓VP, VQ, ite_self, Nat.reduceEqDiff, Nat.reduceAdd, Nat.reduceSub, Nat.reduceMul, Nat.reduceLeDiff, Nat.reduceLT, Nat.reduceBEq, Int.reduceLE, Int.reduceLT, Int.reduceNeg, Int.reduceAdd, Int.reduceSub, Int.reduceToNat, ↓reduceIte, reduceCtorEq, ↓ixShip, ↓ixCall, ↓ixLet, ↓ixRep, eq_self, decide_true, decide_false, if_true, if_false, not_true_eq_false, List.append_eq])
    repeat' (first | intro _ | refine And.intro ?_ ?_)
    all_goals try (first | omega | (simp only [List.length_map, List.length_cons, List.length_nil, List.length_append, Nat.zero_add]; omega) | exact nnC _ | exact nlC (by decide) _ | exact nbC rfl)
    all_goals first
      | (((refine ACall.pure (aw) ?_; try simp (maxSteps := 4000000) only [↓VP, VQ, ite_self, Nat.reduceEqDiff, Nat.reduceAdd, Nat.reduceSub, Nat.reduceMul, Nat.reduceLeDiff, Nat.reduceLT, Nat.reduceBEq, Int.reduceLE, Int.reduceLT, Int.reduceNeg, Int.reduceAdd, Int.reduceSub, Int.reduceToNat, ↓reduceIte, reduceCtorEq, ↓ixShip, ↓ixCall, ↓ixLet, ↓ixRep]); try simp (maxSteps := 4000000) only [↓VP, VQ, ite_self, Nat.reduceEqDiff, Nat.reduceAdd, Nat.reduceSub, Nat.reduceMul, Nat.reduceLeDiff, Nat.reduceLT, Nat.reduceBEq, Int.reduceLE, Int.reduceLT, Int.reduceNeg, Int.reduceAdd, Int.reduceSub, Int.reduceToNat, ↓reduceIte, reduceCtorEq, ↓ixShip, ↓ixCall, ↓ixLet, ↓ixRep, eq_self, decide_true, decide_false, if_true, if_false, not_true_eq_false, List.append_eq]); done)
      | (exfalso; simp_all; done)

theorem shipMore_c (h : RHarb) (hf : HFit h ∧ h.reports.length * 32 ≤ 140737488351232) (r : RRep) (x y : Nat) (hx : x < 256) (hy : y < 256) : PCall Try.prog 9 [harbA h, repA r, .agg [.int .u8 x, .int .u8 y]] (.bool true) := by
  by_cases e : someB h = true ∧ someB (moreH h r) = true
  · exact shipMore_ok h hf.1 hf.2 r x y hx hy e.1 e.2
  · exact shipMore_no h hf.1 hf.2 r x y e
end Go.Proofs.Ytnfmmhmfbipkjaa.Abs

namespace Go.Proofs.Ytnfmmhmfbipkjaa
set_option linter.unusedSimpArgs false
open Go Go.RowKit Go.Proofs Abs
set_option maxRecDepth 100000

theorem shipMore_types : LawTypes Try.prog Try.f9 [26, 71, 72] 4 7 := by
  refine ⟨by rw [Try.params9], by kernel_rfl, Try.underlying4, laid_ok, fun t h => ?_⟩
  simp only [List.mem_cons, List.not_mem_nil, or_false] at h
  rcases h with rfl | rfl | rfl
  · exact plain26
  · exact plain71
  · exact plain72

theorem shipMore_all (xs : List AV) (h : GoodAll Try.prog [26, 71, 72] xs) : ∃ K : AV → Mem → Prop, ACall Try.prog 9 xs (fun _ => .none) K ∧ ∀ r m, K r m → r = .bool true := by
  match xs, h with
  | [a0, a1, a2], ⟨⟨l0, g0, h0⟩, ⟨l1, g1, h1⟩, ⟨l2, g2, h2⟩, _⟩ =>
    obtain ⟨h, hh, e0⟩ := open_harbourB g0
    obtain ⟨r, _, e1⟩ := open_report g1
    obtain ⟨x, y, hx, hy, e2⟩ := open_b2 g2
    rw [h0, e0, h1, e1, h2, e2]
    exact ⟨_, shipMore_c h hh r x y hx hy _, fun r m h => h.1⟩

theorem shipMore_lifted (os : Os) (started : os.Started) (H : Type) (enc : TypeId × Value → H) :
    ReturnsInHanded {} Try.checked os 9 .any (Rows.shipMoreSpec.pre6 enc Try.prog Try.f9 Rows.shipMoreRow.domain false) (Rows.shipMoreSpec.post enc Try.prog Try.f9 false true false false) := by
  refine returnsInHanded_of_change_sized (C := Try.checked) own_ok started (by kernel_rfl) Try.func9
    (ChangeSpec.witness6 (enc := enc) (C := Try.checked) false ⟨#[], #[.agg #[.int .i64 0, .int .i64 0, .slice .none 0 0, .slice .none 0 0, .slice .none 0 0], .agg #[.int .i64 0, .int .i64 0, .int .i64 0, .int .i64 0], .agg #[.int .u8 0, .int .u8 0]], []⟩ 8 (by kernel_rfl) (by kernel_rfl) (by kernel_rfl) (by kernel_rfl)) ?_
  intro W base args ds gs before hval hW _ hz _
  refine law_contract shipMore_types rfl (fun ds hds => ?_) shipMore_all W base args ds gs before hval hW hz
  match ds, hds with
  | [d0, d1, d2], _ => rfl

theorem shipMore_holds : Rows.ShipMoreSaid :=
  OpenClaim.holds_of_wide 9 Try.f9 rfl rfl rfl rfl rfl rfl rfl ⟨rfl, rfl, rfl, rfl, rfl⟩ rfl rfl rfl rfl rfl (by kernel_rfl) Try.func9 (by kernel_rfl)
    (of_decide_eq_true (by kernel_rfl)) (by unfold Func.isWrapper; first | (rw [if_pos (by decide +kernel)]; kernel_rfl) | (rw [if_neg (by decide +kernel)]; exact ⟨rfl, rfl⟩))
    (fun os started H enc _ => shipMore_lifted os started H enc)
end Go.Proofs.Ytnfmmhmfbipkjaa
