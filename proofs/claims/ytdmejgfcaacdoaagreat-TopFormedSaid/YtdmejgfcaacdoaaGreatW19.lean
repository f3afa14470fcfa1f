/- Lemmas for the statements of this seat (W19): they hold without conditions beyond those that each one states. -/
import Derived.Test.YtdmejgfcaacdoaaGreatW18
import Derived.Test.YtdmejgfcaacdoaaGreatW13
/- Laws: what Lock and Least look for. -/
namespace Go.Proofs.YtdmejgfcaacdoaaGreat.Abs
set_option linter.unusedSimpArgs false
open Go Go.RowKit Go.Proofs
theorem listS_view (v : VChest) (hv : VOk v) (p : Nat) (hp : p < v.people.length) : listS (viewS v p) = ownL v p := by
 unfold viewS
 rw [if_pos hp,list_setOf _ _ (by have := hv.c; omega)]
 rfl
theorem bitsS_listTo (s n : Nat) (h : s < 2 ^ n) : bitsS (listTo s n) = s := by
 refine Nat.eq_of_testBit_eq fun i => ?_
 rw [bitsS_bit,Bool.eq_iff_iff,List.any_eq_true]
 constructor
 ·rintro ⟨x,hx,e⟩
  rw [decide_eq_true_eq] at e
  obtain ⟨k,_,h2,rfl⟩ := mem_listTo.1 hx
  rw [Int.toNat_natCast] at e
  rw [← e]; exact h2
 ·intro hb
  have hi : i < n := by
   apply Decidable.byContradiction; intro hge
   rw [Nat.testBit_lt_two_pow (Nat.lt_of_lt_of_le h (Nat.pow_le_pow_right (by decide) (by omega)))] at hb; cases hb
  exact ⟨(i : Int),mem_listTo.2 ⟨i,hi,hb,rfl⟩,by simp⟩
theorem bitsS_listS (s : Nat) (h : s < 2 ^ 62) : bitsS (listS s) = s := bitsS_listTo s 62 h
theorem ownL_pair (v : VChest) (hv : VOk v) (p : Nat) (hp : p < v.people.length) : (ownL v p).Pairwise (· < ·) := by
 rw [← listS_view v hv p hp]; exact listTo_pair _ _
theorem ownL_six (v : VChest) (hv : VOk v) (p : Int) : (ownL v p).length ≤ 6 := Nat.le_trans (ownTo_length v p _) hv.c
theorem choices_full : ((List.range 7).all fun n => decide (choicesL n n = [upToL n])) = true := by kernel_rfl
theorem pick_all (l : List Int) : pickL l (upToL l.length) = l := by
 unfold pickL upToL
 rw [List.map_map]
 apply List.ext_getElem
 ·simp
 ·intro i h1 h2
  simp only [List.getElem_map,List.getElem_range,Function.comp,Int.toNat_natCast]
  exact getD_idx h2
theorem search_full {n : Nat} (hn : n ≤ 6) {q : List Int → Bool} (hq : q (upToL n) = true) : searchL n (n + 1) q = some (match searchL n n q with | some ch => ch | none => upToL n) := by
 have hc : choicesL n n = [upToL n] := by
  have := List.all_eq_true.1 choices_full n (List.mem_range.2 (by omega))
  simpa using this
 unfold searchL
 rw [allCh_succ,hc,List.find?_append]
 cases (allCh n n).find? q with
 | some ch => rfl
 | none => simp [hq]
theorem tellS_zero (v : VChest) (hv : VOk v) : tellS v 0 = 0 := by
 have hb : ∀ n,baseTo v 0 n = 0 := fun n => by
  induction n with
  | zero => rfl
  | succ n ih => rw [show baseTo v 0 (n + 1) = if (0 : Nat).testBit n = true then baseTo v 0 n ||| (v.copies[n]!).facts else baseTo v 0 n from rfl]; simp [ih]
 have hp : ∀ n,n ≤ v.rules.length → passTo v 0 n = 0 := fun n => by
  induction n with
  | zero => intro _; rfl
  | succ n ih =>
   intro hn
   rw [passTo_succ v 0 n (by omega),ih (by omega),addR,if_neg]
   have hr := hv.rule _ (List.getElem_mem (show n < v.rules.length by omega))
   rw [getD_any (show n < v.rules.length by omega)]
   unfold subS natAndNot
   simp; omega
 have hi : ∀ n,iterN (passL v) n 0 = 0 := fun n => by
  induction n with
  | zero => rfl
  | succ n ih => show passL v (iterN (passL v) n 0) = 0; rw [ih]; exact hp _ (Nat.le_refl _)
 unfold tellS
 rw [hb]; exact hi _
def lockQ (v : VChest) (p : Nat) (fact : Nat) (ch : List Int) : Bool := !(tellS v (natAndNot (viewS v p) (bitsS (pickL (ownL v p) ch)))).testBit fact
def lockL (v : VChest) (p fact : Nat) : List Int := match searchL (ownL v p).length (ownL v p).length (lockQ v p fact) with
 | some ch => pickL (ownL v p) ch
 | none => ownL v p
def leastQ (v : VChest) (p : Nat) (ch : List Int) : Bool := decide (tellS v (bitsS (pickL (ownL v p) ch)) = tellS v (viewS v p))
def leastL (v : VChest) (p : Nat) : List Int := match searchL (ownL v p).length (ownL v p).length (leastQ v p) with
 | some ch => pickL (ownL v p) ch
 | none => ownL v p
theorem bits_own (v : VChest) (hv : VOk v) (p : Nat) (hp : p < v.people.length) : bitsS (ownL v p) = viewS v p := by
 rw [← listS_view v hv p hp,bitsS_listS _ (Nat.lt_of_lt_of_le (viewS_lt v hv p) (Nat.pow_le_pow_right (by decide) (by decide)))]
theorem lockQ_all (v : VChest) (hv : VOk v) (p fact : Nat) (hp : p < v.people.length) : lockQ v p fact (upToL (ownL v p).length) = true := by
 unfold lockQ
 rw [pick_all,bits_own v hv p hp]
 have : natAndNot (viewS v p) (viewS v p) = 0 := by
  refine Nat.eq_of_testBit_eq fun i => ?_
  rw [natAndNot_bit]; simp
 rw [this,tellS_zero v hv]; simp
theorem leastQ_all (v : VChest) (hv : VOk v) (p : Nat) (hp : p < v.people.length) : leastQ v p (upToL (ownL v p).length) = true := by
 unfold leastQ
 rw [pick_all,bits_own v hv p hp]; simp
theorem first_full (v : VChest) (hv : VOk v) (p : Nat) (hp : p < v.people.length) (f : Nat → Bool) (hq : f (bitsS (pickL (ownL v p) (upToL (ownL v p).length))) = true) :
  firstL ((ownL v p).map Int.toNat) f = ((match searchL (ownL v p).length (ownL v p).length (fun ch => f (bitsS (pickL (ownL v p) ch))) with
   | some ch => pickL (ownL v p) ch
   | none => ownL v p),true) := by
 rw [first_pick (ownL_pair v hv p hp) (fun x hx => by have := ownL_range hx; have := hv.c; omega) (ownL_six v hv p) f]
 have := search_full (ownL_six v hv p) (q := fun ch => f (bitsS (pickL (ownL v p) ch))) hq
 rw [this]
 cases searchL (ownL v p).length (ownL v p).length fun ch => f (bitsS (pickL (ownL v p) ch)) with
 | some ch => rfl
 | none => simp only; rw [pick_all]
theorem first_lock (v : VChest) (hv : VOk v) (p fact : Nat) (hp : p < v.people.length) : firstL ((ownL v p).map Int.toNat) (fun s => !(tellS v (natAndNot (viewS v p) s)).testBit fact) = (lockL v p fact,true) :=
 first_full v hv p hp _ (lockQ_all v hv p fact hp)
theorem first_least (v : VChest) (hv : VOk v) (p : Nat) (hp : p < v.people.length) : firstL ((ownL v p).map Int.toNat) (fun s => decide (tellS v s = tellS v (viewS v p))) = (leastL v p,true) :=
 first_full v hv p hp _ (leastQ_all v hv p hp)
set_option maxHeartbeats 4000000
set_option maxRecDepth 100000
def lockR (c : RChest) (p fact : Int) : List Int × Int :=
 if enterE c [p,c.people.length,fact,c.facts] ≠ 0 then ([],enterE c [p,c.people.length,fact,c.facts]) else (lockL c.v p.toNat fact.toNat,0)
theorem enterE_four (c : RChest) (n b n' b' : Int) : enterE c [n,b,n',b'] = if (checkR c).2.2 ≠ 0 then (checkR c).2.2 else if (offP 0 (b - 1) n || offP 0 (b' - 1) n') = true then 4 else 0 := by
 unfold enterE pairsOff pairsOff pairsOff
 simp
theorem lock_ok (v : VChest) (hv : VOk v) (p fact : Nat) (hp : p < v.people.length) (hf : fact < v.facts)
  (hen : ∀ m,ACall Tryz.prog 47 [vchestA v,ints [(p : Int),v.people.length,fact,v.facts]] m fun r m' => ∃ b,m b = none ∧ r = .tuple [.eptr (seenL v b),.int .i64 0] ∧ m' = upd m b (some (.map []))) :
  PCall Tryz.prog 44 [vchestA v,.int .i64 p,.int .i64 fact] (.tuple [ints (lockL v p fact),.int .i64 0]) := by
 intro m
 refine ACall.forget ?_
 have hc6 := hv.c
 have hf6 := hv.f
 have hp3 := hv.p
 have hvl := viewS_lt v hv p
 have hfp := first_lock v hv p fact hp
 have hlist := list_c (viewS v p) (Nat.lt_of_lt_of_le hvl (Nat.pow_le_pow_right (by decide) (by decide)))
 rw [listS_view v hv p hp] at hlist
 have hfirst := fun (b : Nat) (m : Mem) (hm : ToldM v b m) => first_c ((ownL v p).map Int.toNat) (fun x hx => by obtain ⟨y,hy,rfl⟩ := List.mem_map.1 hx; have := ownL_range hy; omega) (by have := ownL_six v hv p; simp; omega)
  (wok_told (g := 100) (caps := [.eptr [.eptr (seenL v b)],.eptr [.int .i64 (viewS v p)],.eptr [.int .i64 fact]]) (p := fun s => !(tellS v (natAndNot (viewS v p) s)).testBit fact) (v := v) (b := b)
   fun x m l' hx hm => lock1_c v b fact (viewS v p) hv (by omega) (by omega) x m l' hx hm) m hm
 rw [← ints_natsA fun x hx => (ownL_range hx).1,hfp] at hfirst
 have hen := hen m
 have hdr := fun b => view_drop v b p (by omega)
 generalize lockL v p fact = W at *
 simp only [vchestA,vchestL,strs,ints,List.map_cons,List.map_nil] at hen hfirst hlist ⊢
 (refine acall_intro (E := envC (modeAt [8,10] []) false []) (envCOk _ _ _) rfl Tryz.func44 rfl Tryz.call44 (by kernel_rfl) (by simp [Tryz.ntmps44]) ?_; simp only [Tryz.f44];  simp(maxSteps:=9^9)only[↓VP,VQ,seval])
 repeat'(first|intro _|apply And.intro)
 refine ACall.told hen ?_
 rintro r m1 ⟨b,hb,rfl,rfl⟩
 have hdr := hdr b
 have hfirst := hfirst b (upd m b (some (.map []))) ⟨[],upd_same _ _ _⟩
 simp only [seenL] at hfirst ⊢
 simp(maxSteps:=9^9)only[↓VP,VQ,seval,hdr]
 repeat'(first|intro _|apply And.intro)
 all_goals try first|omega|(simp only[LL];omega)|exact nlC (by decide) _|exact nbC rfl
 (refine ACall.pure (hlist) ?_; try simp(maxSteps:=9^9)only[↓VP,VQ,seval])
 refine ACall.told hfirst ?_
 rintro r m2 ⟨rfl,hM,hk⟩
 simp(maxSteps:=9^9)only[↓VP,VQ,seval]
 obtain ⟨m'',q1,_,q2⟩ := forget_keeps (R := True) hb rfl hk trivial
 exact ⟨m'',q1,q2⟩
theorem bounds_four {n b n' b' : Int} (hb : -9223372036854775000 ≤ b ∧ b ≤ 9223372036854775807) (hb' : -9223372036854775000 ≤ b' ∧ b' ≤ 9223372036854775807) :
  ∀ j,2 * j + 1 < [n,b,n',b'].length → -9223372036854775000 ≤ [n,b,n',b'][2 * j + 1]! ∧ [n,b,n',b'][2 * j + 1]! ≤ 9223372036854775807 := by
 intro j hj
 have : j = 0 ∨ j = 1 := by simp at hj; omega
 rcases this with rfl | rfl
 ·simpa using hb
 ·simpa using hb'
theorem lock_top (c : RChest) (hs : namesFit c) (p fact : Int) (hpl : c.people.length ≤ 9223372036854775807) :
  PCall Tryz.prog 44 [chestA c,.int .i64 p,.int .i64 fact] (.tuple [ints (lockR c p fact).1,.int .i64 (lockR c p fact).2]) := by
 by_cases h0 : enterE c [p,c.people.length,fact,c.facts] ≠ 0
 ·have hR : lockR c p fact = ([],enterE c [p,c.people.length,fact,c.facts]) := by unfold lockR; rw [if_pos h0]
  rw [hR]
  intro m
  refine ACall.forget ?_
  have hen := enter_c c hs [p,c.people.length,fact,c.facts] (by simp) (fun hk => bounds_four (by omega) (facts_of hk)) m
  generalize enterE c [p,c.people.length,fact,c.facts] = e at *
  simp only [chestA,chestL,strs,ints,List.map_nil,List.map_cons] at hen ⊢
  (refine acall_intro (E := envC (modeAt [8,10] []) false []) (envCOk _ _ _) rfl Tryz.func44 rfl Tryz.call44 (by kernel_rfl) (by simp [Tryz.ntmps44]) ?_; simp only [Tryz.f44];  simp(maxSteps:=9^9)only[↓VP,VQ,seval])
  repeat'(first|intro _|apply And.intro)
  refine ACall.told hen ?_
  rintro r m' (⟨_,rfl,rfl⟩ | ⟨h,_⟩)
  ·simp(maxSteps:=9^9)only[↓VP,VQ,seval,h0]
   exact ⟨m',fun _ _ h => h,rfl⟩
  ·exact absurd h h0
 ·have hR : lockR c p fact = (lockL c.v p.toNat fact.toNat,0) := by unfold lockR; rw [if_neg h0]
  rw [hR]
  have h0' : enterE c [p,c.people.length,fact,c.facts] = 0 := by omega
  rw [enterE_four] at h0'
  have q1 : (checkR c).2.2 = 0 := by
   by_cases q : (checkR c).2.2 ≠ 0
   ·rw [if_pos q] at h0'; exact absurd h0' q
   ·omega
  rw [if_neg (by omega)] at h0'
  have q2 : (offP 0 ((c.people.length : Int) - 1) p || offP 0 (c.facts - 1) fact) = false := by
   cases hq : (offP 0 ((c.people.length : Int) - 1) p || offP 0 (c.facts - 1) fact) with
   | false => rfl
   | true => rw [hq] at h0'; simp at h0'
  obtain ⟨e1,hv⟩ := valid_v q1
  clear hR h0 h0' hpl
  generalize c.v = v at *
  subst e1
  have hf6 := hv.f
  have hp3 := hv.p
  have hen := fun m => enter_ok v hv hs [p,v.people.length,fact,v.facts] (by simp) (bounds_four (by omega) (by omega)) (by
   have q3 : (offP 0 ((v.people.length : Int) - 1) p || offP 0 ((v.facts : Int) - 1) fact) = false := q2
   simp only [Bool.or_eq_false_iff] at q3
   simp [pairsOff,q3.1,q3.2]) m
  simp only [Bool.or_eq_false_iff,offP_false] at q2
  have q2' : (0 ≤ p ∧ p ≤ (v.people.length : Int) - 1) ∧ (0 ≤ fact ∧ fact ≤ (v.facts : Int) - 1) := q2
  have hpn : p = ((p.toNat : Nat) : Int) := by omega
  have hfn : fact = ((fact.toNat : Nat) : Int) := by omega
  have := lock_ok v hv p.toNat fact.toNat (by omega) (by omega) (by rw [← hpn,← hfn]; exact hen)
  rw [← hpn,← hfn] at this
  rw [vchestA_raw]; exact this
def leastR (c : RChest) (p : Int) : List Int × Int := if enterE c [p,c.people.length] ≠ 0 then ([],enterE c [p,c.people.length]) else (leastL c.v p.toNat,0)
theorem leastL_none (v : VChest) (hv : VOk v) (p : Nat) (hp : p < v.people.length) (h : viewS v p = 0) : leastL v p = [] := by
 have ho : ownL v p = [] := by rw [← listS_view v hv p hp,h]; rfl
 unfold leastL
 rw [ho]; rfl
theorem least_ok (v : VChest) (hv : VOk v) (p : Nat) (hp : p < v.people.length)
  (hen : ∀ m,ACall Tryz.prog 47 [vchestA v,ints [(p : Int),v.people.length]] m fun r m' => ∃ b,m b = none ∧ r = .tuple [.eptr (seenL v b),.int .i64 0] ∧ m' = upd m b (some (.map []))) :
  PCall Tryz.prog 45 [vchestA v,.int .i64 p] (.tuple [ints (leastL v p),.int .i64 0]) := by
 intro m
 refine ACall.forget ?_
 have hc6 := hv.c
 have hp3 := hv.p
 have hvl := viewS_lt v hv p
 have hfp := first_least v hv p hp
 have hnone := leastL_none v hv p hp
 have hlist := list_c (viewS v p) (Nat.lt_of_lt_of_le hvl (Nat.pow_le_pow_right (by decide) (by decide)))
 rw [listS_view v hv p hp] at hlist
 have hfirst := fun (b : Nat) (m : Mem) (hm : ToldM v b m) => first_c ((ownL v p).map Int.toNat) (fun x hx => by obtain ⟨y,hy,rfl⟩ := List.mem_map.1 hx; have := ownL_range hy; omega) (by have := ownL_six v hv p; simp; omega)
  (wok_told (g := 101) (caps := [.eptr [.eptr (seenL v b)],.eptr [.int .i64 (viewS v p)]]) (p := fun s => decide (tellS v s = tellS v (viewS v p))) (v := v) (b := b)
   fun x m l' hx hm => least1_c v b (viewS v p) hv (by omega) x m l' hx hm) m hm
 rw [← ints_natsA fun x hx => (ownL_range hx).1,hfp] at hfirst
 have hen := hen m
 have hdr := fun b => view_drop v b p (by omega)
 generalize leastL v p = W at *
 simp only [vchestA,vchestL,strs,ints,List.map_cons,List.map_nil] at hen hfirst hlist ⊢
 (refine acall_intro (E := envC (modeAt [6,8,9] []) false []) (envCOk _ _ _) rfl Tryz.func45 rfl Tryz.call45 (by kernel_rfl) (by simp [Tryz.ntmps45]) ?_; simp only [Tryz.f45];  simp(maxSteps:=9^9)only[↓VP,VQ,seval])
 repeat'(first|intro _|apply And.intro)
 refine ACall.told hen ?_
 rintro r m1 ⟨b,hb,rfl,rfl⟩
 have hdr := hdr b
 have hfirst := hfirst b (upd m b (some (.map []))) ⟨[],upd_same _ _ _⟩
 simp only [seenL] at hfirst ⊢
 have heq := eqFlatViews (viewS v p) (viewS v p) (viewS v p) (viewS v 0) (viewS v 1) (viewS v 2)
 simp only [Bool.and_true] at heq
 simp(maxSteps:=9^9)only[↓VP,VQ,seval,hdr]
 repeat'(first|intro _|apply And.intro)
 all_goals try first|omega|(simp only[LL];omega)|exact nlC (by decide) _|exact nbC rfl
 ·rfl
 ·rfl
 (refine adraw (by first | exact envOk _ | exact envCOk _ _ _) mixed [⟨false,false,0⟩,⟨false,false,0⟩,⟨false,false,0⟩,⟨false,false,0⟩,⟨false,false,0⟩,⟨false,false,0⟩,⟨false,false,0⟩,⟨false,false,0⟩,⟨false,false,0⟩,⟨false,false,0⟩] (by kernel_rfl) ?_; show vcOpsD _ _ _ (_ :: _) _ _)
 simp(maxSteps:=9^9)only[↓VP,VQ,seval,hdr,heq]
 repeat'(first|intro _|apply And.intro)
 all_goals try first|omega|(simp only[LL];omega)|exact nlC (by decide) _|exact nbC rfl
 ·have h0 : viewS v p = 0 := by omega
  refine forget_fin hb ?_
  rw [hnone h0]; rfl
 all_goals
  (refine ACall.pure (hlist) ?_; try simp(maxSteps:=9^9)only[↓VP,VQ,seval])
  refine ACall.told hfirst ?_
  rintro r m2 ⟨rfl,hM,hk⟩
  simp(maxSteps:=9^9)only[↓VP,VQ,seval]
  obtain ⟨m'',q1,_,q2⟩ := forget_keeps (R := True) hb rfl hk trivial
  exact ⟨m'',q1,q2⟩
theorem least_top (c : RChest) (hs : namesFit c) (p : Int) (hpl : c.people.length ≤ 9223372036854775807) :
  PCall Tryz.prog 45 [chestA c,.int .i64 p] (.tuple [ints (leastR c p).1,.int .i64 (leastR c p).2]) := by
 by_cases h0 : enterE c [p,c.people.length] ≠ 0
 ·have hR : leastR c p = ([],enterE c [p,c.people.length]) := by unfold leastR; rw [if_pos h0]
  rw [hR]
  intro m
  refine ACall.forget ?_
  have hen := enter_c c hs [p,c.people.length] (by simp) (fun _ => bounds_two (by omega)) m
  generalize enterE c [p,c.people.length] = e at *
  simp only [chestA,chestL,strs,ints,List.map_nil,List.map_cons] at hen ⊢
  (refine acall_intro (E := envC (modeAt [6,8,9] []) false []) (envCOk _ _ _) rfl Tryz.func45 rfl Tryz.call45 (by kernel_rfl) (by simp [Tryz.ntmps45]) ?_; simp only [Tryz.f45];  simp(maxSteps:=9^9)only[↓VP,VQ,seval])
  repeat'(first|intro _|apply And.intro)
  refine ACall.told hen ?_
  rintro r m' (⟨_,rfl,rfl⟩ | ⟨h,_⟩)
  ·simp(maxSteps:=9^9)only[↓VP,VQ,seval,h0]
   exact ⟨m',fun _ _ h => h,rfl⟩
  ·exact absurd h h0
 ·have hR : leastR c p = (leastL c.v p.toNat,0) := by unfold leastR; rw [if_neg h0]
  rw [hR]
  have h0' : enterE c [p,c.people.length] = 0 := by omega
  rw [enterE_two] at h0'
  have q1 : (checkR c).2.2 = 0 := by
   by_cases q : (checkR c).2.2 ≠ 0
   ·rw [if_pos q] at h0'; exact absurd h0' q
   ·omega
  rw [if_neg (by omega)] at h0'
  have q2 : offP 0 ((c.people.length : Int) - 1) p = false := by
   cases hq : offP 0 ((c.people.length : Int) - 1) p with
   | false => rfl
   | true => rw [hq] at h0'; simp at h0'
  obtain ⟨e1,hv⟩ := valid_v q1
  clear hR h0 h0' hpl
  generalize c.v = v at *
  subst e1
  have hp3 := hv.p
  have hen := fun m => enter_ok v hv hs [p,v.people.length] (by simp) (bounds_two (by omega)) (by
   have q3 : offP 0 ((v.people.length : Int) - 1) p = false := q2
   simp [pairsOff,q3]) m
  rw [offP_false] at q2
  have q2' : 0 ≤ p ∧ p ≤ (v.people.length : Int) - 1 := q2
  have hpn : p = ((p.toNat : Nat) : Int) := by omega
  have := least_ok v hv p.toNat (by omega) (by rw [← hpn]; exact hen)
  rw [← hpn] at this
  rw [vchestA_raw]; exact this
theorem key1_c (x : VCopy) (n : Int) : PCall Tryz.prog 58 [vcopyA x,.eptr [.int .i64 n]] (.bool (decide ((x.number : Int) = n))) := by
 intro m
 simp only [vcopyA]
 have heq := eqFlatCopy (x.number : Int) x.words x.facts x.may n x.words x.facts x.may
 (refine acall_intro (E := env fun _ => .imm) (envOk _) rfl Tryz.func58 rfl Tryz.call58 (by kernel_rfl) (by simp [Tryz.ntmps58]) ?_; simp only [Tryz.f58];  simp(maxSteps:=9^9)only[↓VP,VQ,seval])
 unfold vcSome
 simp only [buildFrom,placeOf]
 simp(maxSteps:=9^9)only[↓VP,VQ,seval]
 refine ⟨by simpa only [decide_true,Bool.and_true] using heq,?_⟩
 simp
theorem indexCopy_c (g : FuncId) (caps : List AV) (l : List VCopy) (p : VCopy → Bool) (h : ∀ x,PCall Tryz.prog g ([vcopyA x] ++ caps) (.bool (p x))) :
  PCall Tryz.prog 57 [.slice 4 (l.map vcopyA),.fn (.func g) [] caps] (.int .i64 (idxL p l)) := by
 intro m
 (refine acall_len Tryz.call57 fun hlen => ?_; refine acall_intro (E := env fun _ => .imm) (envOk _) rfl Tryz.func57 rfl Tryz.call57 (by kernel_rfl) (by simp [Tryz.ntmps57]) ?_; simp only [Tryz.f57];  simp(maxSteps:=9^9)only[↓VP,VQ,seval])
 simp only [lenOk_cons,lenOk_nil,List.length_map,and_true,maxLen_eq] at hlen
 intro _
 refine aloop (envOk _) (fun k : Nat => ⟨[(0,.v (.slice 4 (l.map vcopyA))),(1,.v (.fn (.func g) [] caps)),(7,.v (.int .i64 l.length)),(8,.v (.int .i64 k))],[],[],m⟩) (fun k => k ≤ l.length ∧ ∀ x ∈ l.take k,p x = false) (fun k => l.length - k) 0 (fun _ => rfl) (by simp) (by (simp only [FE,↓FP,seval]); try simp) ?_
 intro k ⟨hk,hp⟩
 simp(maxSteps:=9^9)only[↓VP,VQ,seval,vcopyA]
 repeat'(first|intro _|apply And.intro)
 all_goals try first|omega|(simp only[LL];omega)|exact nlC (by decide) _|exact nbC rfl
 ·have hlt : k < l.length := by omega
  have e1 : l[k]! = l[k] := getD_any hlt
  have hc := h l[k]!
  simp only [vcopyA,List.cons_append,List.nil_append] at hc
  refine ACall.pure hc ?_
  simp(maxSteps:=9^9)only[↓VP,VQ,seval]
  repeat'(first|intro _|apply And.intro)
  all_goals try first|omega|(simp only[LL];omega)|exact nlC (by decide) _|exact nbC rfl
  ·rename_i hpx
   rw [idxL_at hlt hp (by rw [← e1]; exact hpx)]
  ·have hpx : ¬ p l[k]! = true := by assumption
   refine ⟨k + 1,⟨by omega,forall_take_succ hlt hp (by rw [← e1]; simpa using hpx)⟩,by dsimp only; omega,?_⟩
   simp only [FE,↓FP,seval]
   simp
 ·have : l.take k = l := List.take_of_length_le (by omega)
  rw [this] at hp
  rw [idxL_neg hp]
theorem idxL_cases {α : Type} (p : α → Bool) (l : List α) : idxL p l = -1 ∨ ∃ k,k < l.length ∧ idxL p l = (k : Int) := by
 induction l with
 | nil => exact .inl rfl
 | cons x l ih =>
  unfold idxL
  by_cases h : p x = true
  ·right; exact ⟨0,by simp,by simp [h]⟩
  ·rw [if_neg h]
   rcases ih with ih | ⟨k,h1,h2⟩
   ·left; rw [ih]; rfl
   ·right; exact ⟨k + 1,by simp; omega,by rw [if_neg (by omega),h2]; simp⟩
def keyQ (v : VChest) (p at_ : Nat) (ch : List Int) : Bool := decide (findS v p (bitsS ch) = 2 ^ at_)
def keyL (v : VChest) (p : Nat) (n : Int) : List Int × Int :=
 if atL v n < 0 then ([],7) else if (viewS v p).testBit (atL v n).toNat = false then ([],2)
 else match searchL v.words (v.words + 1) (keyQ v p (atL v n).toNat) with
  | some ch => (ch,0)
  | none => ([],9)
theorem upToL_pair : ∀ n,(upToL n).Pairwise (· < ·)
 | 0 => by simp [upToL]
 | n + 1 => by
  rw [upToL_succ,List.pairwise_append]
  refine ⟨upToL_pair n,by simp,fun x hx y hy => ?_⟩
  simp only [upToL,List.mem_map,List.mem_range] at hx
  obtain ⟨k,hk,rfl⟩ := hx
  rw [List.mem_singleton.1 hy]; omega
theorem pick_upTo {n : Nat} {ch : List Int} (h : ∀ i ∈ ch,0 ≤ i ∧ i < (n : Int)) : pickL (upToL n) ch = ch := by
 unfold pickL
 conv => rhs; rw [← List.map_id ch]
 refine List.map_congr_left fun i hi => ?_
 have := h i hi
 have hlt : i.toNat < (upToL n).length := by simp [upToL]; omega
 rw [getD_idx hlt]
 simp [upToL]; omega
theorem first_key (v : VChest) (hv : VOk v) (p at_ : Nat) : firstL ((upToL v.words).map Int.toNat) (fun s => decide (findS v p s = 2 ^ at_)) = match searchL v.words (v.words + 1) (keyQ v p at_) with
  | some ch => (ch,true)
  | none => ([],false) := by
 have hw := hv.w
 have hlen : (upToL v.words).length = v.words := by simp [upToL]
 rw [first_pick (upToL_pair _) (fun x hx => by simp only [upToL,List.mem_map,List.mem_range] at hx; obtain ⟨k,hk,rfl⟩ := hx; omega) (by rw [hlen]; omega),hlen]
 have hmem : ∀ ch ∈ allCh v.words (v.words + 1),pickL (upToL v.words) ch = ch := fun ch hch => by
  obtain ⟨i,_,hc⟩ := mem_allCh.1 hch
  exact pick_upTo (choices_mem hc).2
 have : searchL v.words (v.words + 1) (fun ch => decide (findS v p (bitsS (pickL (upToL v.words) ch)) = 2 ^ at_)) = searchL v.words (v.words + 1) (keyQ v p at_) :=
  find_congr fun ch hch => by rw [hmem ch hch]; rfl
 rw [this]
 cases hs : searchL v.words (v.words + 1) (keyQ v p at_) with
 | none => rfl
 | some ch => simp only; rw [hmem ch (List.mem_of_find?_eq_some hs)]
theorem key_ok (v : VChest) (hv : VOk v) (p : Nat) (n : Int) (hp : p < v.people.length)
  (hen : ∀ m,ACall Tryz.prog 47 [vchestA v,ints [(p : Int),v.people.length]] m fun r m' => ∃ b,m b = none ∧ r = .tuple [.eptr (seenL v b),.int .i64 0] ∧ m' = upd m b (some (.map []))) :
  PCall Tryz.prog 15 [vchestA v,.int .i64 p,.int .i64 n] (.tuple [ints (keyL v p n).1,.int .i64 (keyL v p n).2]) := by
 intro m
 refine ACall.forget ?_
 have hc6 := hv.c
 have hw5 := hv.w
 have hp3 := hv.p
 have hvl := viewS_lt v hv p
 have hen := hen m
 have hdr := fun b => view_drop v b p (by omega)
 have hidx := indexCopy_c 58 [.eptr [.int .i64 n]] v.copies (fun x => decide ((x.number : Int) = n)) fun x => key1_c x n
 have hW : keyL v p n = if atL v n < 0 then ([],(7 : Int)) else if (viewS v p).testBit (atL v n).toNat = false then ([],(2 : Int))
  else match searchL v.words (v.words + 1) (keyQ v p (atL v n).toNat) with
  | some ch => (ch,(0 : Int))
  | none => ([],(9 : Int)) := rfl
 change PCall _ _ _ (.int .i64 (atL v n)) at hidx
 generalize keyL v p n = W at *
 rcases idxL_cases (fun x : VCopy => decide ((x.number : Int) = n)) v.copies with ha | ⟨k,hk,ha⟩
 ·change atL v n = -1 at ha
  rw [ha] at hW hidx
  rw [if_pos (by decide)] at hW
  have h1 : (-1 : Int) < 0 := by decide
  simp only [vchestA,vchestL,strs,ints,List.map_cons,List.map_nil] at hen hidx ⊢
  (refine acall_intro (E := envC (modeAt [8,10] []) false []) (envCOk _ _ _) rfl Tryz.func15 rfl Tryz.call15 (by kernel_rfl) (by simp [Tryz.ntmps15]) ?_; simp only [Tryz.f15];  simp(maxSteps:=9^9)only[↓VP,VQ,seval])
  repeat'(first|intro _|apply And.intro)
  refine ACall.told hen ?_
  rintro r m1 ⟨b,hb,rfl,rfl⟩
  simp(maxSteps:=9^9)only[↓VP,VQ,seval]
  repeat'(first|intro _|apply And.intro)
  all_goals try first|omega|(simp only[LL];omega)|exact nlC (by decide) _|exact nbC rfl
  (refine ACall.pure (hidx) ?_; try simp(maxSteps:=9^9)only[↓VP,VQ,seval])
  try simp(maxSteps:=9^9)only[↓VP,VQ,seval,h1]
  refine forget_fin hb ?_
  rw [hW]; rfl
 ·change atL v n = (k : Int) at ha
  rw [ha] at hW hidx
  rw [if_neg (by omega),Int.toNat_natCast] at hW
  have hn1 : ¬ (k : Int) < 0 := by omega
  have hle : viewS v p / 2 ^ k ≤ viewS v p := Nat.div_le_self _ _
  cases hbit : (viewS v p).testBit k with
  | false =>
   rw [hbit,if_pos rfl] at hW
   simp only [vchestA,vchestL,strs,ints,List.map_cons,List.map_nil] at hen hidx ⊢
   (refine acall_intro (E := envC (modeAt [8,10] []) false []) (envCOk _ _ _) rfl Tryz.func15 rfl Tryz.call15 (by kernel_rfl) (by simp [Tryz.ntmps15]) ?_; simp only [Tryz.f15];  simp(maxSteps:=9^9)only[↓VP,VQ,seval])
   repeat'(first|intro _|apply And.intro)
   refine ACall.told hen ?_
   rintro r m1 ⟨b,hb,rfl,rfl⟩
   have hdr := hdr b
   simp only [seenL]
   simp(maxSteps:=9^9)only[↓VP,VQ,seval]
   repeat'(first|intro _|apply And.intro)
   all_goals try first|omega|(simp only[LL];omega)|exact nlC (by decide) _|exact nbC rfl
   (refine ACall.pure (hidx) ?_; try simp(maxSteps:=9^9)only[↓VP,VQ,seval])
   simp(maxSteps:=9^9)only[↓VP,VQ,seval,hn1]
   (refine adraw (by first | exact envOk _ | exact envCOk _ _ _) mixed [⟨false,false,0⟩,⟨false,false,0⟩,⟨false,false,0⟩,⟨false,false,0⟩,⟨false,false,0⟩,⟨false,false,0⟩,⟨false,false,0⟩,⟨false,false,0⟩,⟨false,false,0⟩,⟨false,false,0⟩,⟨false,false,0⟩] (by kernel_rfl) ?_; show vcOpsD _ _ _ (_ :: _) _ _)
   simp(maxSteps:=9^9)only[↓VP,VQ,seval,hdr,hbit]
   repeat'(first|intro _|apply And.intro)
   all_goals try first|omega|(simp only[LL];omega)|exact nlC (by decide) _|exact nbC rfl
   refine forget_fin hb ?_
   rw [hW]; rfl
  | true =>
   rw [hbit,if_neg (by simp)] at hW
   have hfp := first_key v hv p k
   have hup := upTo_c v.words (by omega)
   have hfirst := fun (m : Mem) (b : Nat) => first_c ((upToL v.words).map Int.toNat) (fun x hx => by
     obtain ⟨y,hy,rfl⟩ := List.mem_map.1 hx
     simp only [upToL,List.mem_map,List.mem_range] at hy
     obtain ⟨q,hq,rfl⟩ := hy
     omega) (by simp [upToL]; omega)
    (wok_pure (g := 61) (caps := [.eptr [.eptr (seenL v b)],.eptr [.int .i64 p],.eptr [.int .i64 k]]) (p := fun s => decide (findS v p s = 2 ^ k)) fun x hx => key2_c v b p k x hv hp (by omega) hx) m trivial
   rw [← ints_natsA fun x hx => by simp only [upToL,List.mem_map,List.mem_range] at hx; obtain ⟨q,hq,rfl⟩ := hx; omega] at hfirst
   generalize firstL ((upToL v.words).map Int.toNat) (fun s => decide (findS v p s = 2 ^ k)) = FL at *
   have hcase : (∃ ch,W = (ch,0) ∧ FL = (ch,true)) ∨ (W = ([],9) ∧ FL = ([],false)) := by
    cases hs : searchL v.words (v.words + 1) (keyQ v p k) with
    | some ch => rw [hs] at hW hfp; exact .inl ⟨ch,hW,hfp⟩
    | none => rw [hs] at hW hfp; exact .inr ⟨hW,hfp⟩
   clear hW hfp
   rcases hcase with ⟨ch,rfl,rfl⟩ | ⟨rfl,rfl⟩
   all_goals
    simp only [vchestA,vchestL,strs,ints,List.map_cons,List.map_nil] at hen hidx hup hfirst ⊢
    (refine acall_intro (E := envC (modeAt [8,10] []) false []) (envCOk _ _ _) rfl Tryz.func15 rfl Tryz.call15 (by kernel_rfl) (by simp [Tryz.ntmps15]) ?_; simp only [Tryz.f15];  simp(maxSteps:=9^9)only[↓VP,VQ,seval])
    repeat'(first|intro _|apply And.intro)
    refine ACall.told hen ?_
    rintro r m1 ⟨b,hb,rfl,rfl⟩
    have hdr := hdr b
    have hfirst := hfirst (upd m b (some (.map []))) b
    simp only [seenL] at hfirst ⊢
    simp(maxSteps:=9^9)only[↓VP,VQ,seval]
    repeat'(first|intro _|apply And.intro)
    all_goals try first|omega|(simp only[LL];omega)|exact nlC (by decide) _|exact nbC rfl
    (refine ACall.pure (hidx) ?_; try simp(maxSteps:=9^9)only[↓VP,VQ,seval])
    simp(maxSteps:=9^9)only[↓VP,VQ,seval,hn1]
    (refine adraw (by first | exact envOk _ | exact envCOk _ _ _) mixed [⟨false,false,0⟩,⟨false,false,0⟩,⟨false,false,0⟩,⟨false,false,0⟩,⟨false,false,0⟩,⟨false,false,0⟩,⟨false,false,0⟩,⟨false,false,0⟩,⟨false,false,0⟩,⟨false,false,0⟩,⟨false,false,0⟩] (by kernel_rfl) ?_; show vcOpsD _ _ _ (_ :: _) _ _)
    simp(maxSteps:=9^9)only[↓VP,VQ,seval,hdr,hbit]
    repeat'(first|intro _|apply And.intro)
    all_goals try first|omega|(simp only[LL];omega)|exact nlC (by decide) _|exact nbC rfl
    (refine ACall.pure (hup) ?_; try simp(maxSteps:=9^9)only[↓VP,VQ,seval])
    refine ACall.told hfirst ?_
    rintro r m2 ⟨rfl,hM,hk2⟩
    simp(maxSteps:=9^9)only[↓VP,VQ,seval]
    exact ⟨m,fun b' x hx => hk2 b' x id ((upd_ne _ _ (ne_of_some hx hb)).trans hx),rfl⟩
def keyR (c : RChest) (p n : Int) : List Int × Int := if enterE c [p,c.people.length] ≠ 0 then ([],enterE c [p,c.people.length]) else keyL c.v p.toNat n
theorem key_top (c : RChest) (hs : namesFit c) (p n : Int) (hpl : c.people.length ≤ 9223372036854775807) :
  PCall Tryz.prog 15 [chestA c,.int .i64 p,.int .i64 n] (.tuple [ints (keyR c p n).1,.int .i64 (keyR c p n).2]) := by
 by_cases h0 : enterE c [p,c.people.length] ≠ 0
 ·have hR : keyR c p n = ([],enterE c [p,c.people.length]) := by unfold keyR; rw [if_pos h0]
  rw [hR]
  intro m
  refine ACall.forget ?_
  have hen := enter_c c hs [p,c.people.length] (by simp) (fun _ => bounds_two (by omega)) m
  generalize enterE c [p,c.people.length] = e at *
  simp only [chestA,chestL,strs,ints,List.map_nil,List.map_cons] at hen ⊢
  (refine acall_intro (E := envC (modeAt [8,10] []) false []) (envCOk _ _ _) rfl Tryz.func15 rfl Tryz.call15 (by kernel_rfl) (by simp [Tryz.ntmps15]) ?_; simp only [Tryz.f15];  simp(maxSteps:=9^9)only[↓VP,VQ,seval])
  repeat'(first|intro _|apply And.intro)
  refine ACall.told hen ?_
  rintro r m' (⟨_,rfl,rfl⟩ | ⟨h,_⟩)
  ·simp(maxSteps:=9^9)only[↓VP,VQ,seval,h0]
   exact ⟨m',fun _ _ h => h,rfl⟩
  ·exact absurd h h0
 ·have hR : keyR c p n = keyL c.v p.toNat n := by unfold keyR; rw [if_neg h0]
  rw [hR]
  have h0' : enterE c [p,c.people.length] = 0 := by omega
  rw [enterE_two] at h0'
  have q1 : (checkR c).2.2 = 0 := by
   by_cases q : (checkR c).2.2 ≠ 0
   ·rw [if_pos q] at h0'; exact absurd h0' q
   ·omega
  rw [if_neg (by omega)] at h0'
  have q2 : offP 0 ((c.people.length : Int) - 1) p = false := by
   cases hq : offP 0 ((c.people.length : Int) - 1) p with
   | false => rfl
   | true => rw [hq] at h0'; simp at h0'
  obtain ⟨e1,hv⟩ := valid_v q1
  clear hR h0 h0' hpl
  generalize c.v = v at *
  subst e1
  have hp3 := hv.p
  have hen := fun m => enter_ok v hv hs [p,v.people.length] (by simp) (bounds_two (by omega)) (by
   have q3 : offP 0 ((v.people.length : Int) - 1) p = false := q2
   simp [pairsOff,q3]) m
  rw [offP_false] at q2
  have q2' : 0 ≤ p ∧ p ≤ (v.people.length : Int) - 1 := q2
  have hpn : p = ((p.toNat : Nat) : Int) := by omega
  have := key_ok v hv p.toNat n (by omega) (by rw [← hpn]; exact hen)
  rw [← hpn] at this
  rw [vchestA_raw]; exact this
theorem setOf_eq_list (v : VChest) (hv : VOk v) (p k : Nat) (ch : List Int) (hp : p < v.people.length) (hk : k < v.copies.length) : keyQ v p k ch = decide (foundL v p ch = [(k : Int)]) := by
 have hc6 := hv.c
 unfold keyQ
 rw [← found_find v hv p ch hp,decide_eq_decide]
 have h1 : findS v p (bitsS ch) < 2 ^ 62 := Nat.lt_of_lt_of_le (setOf_lt _ _) (Nat.pow_le_pow_right (by decide) (by omega))
 have h2 : bitsS [(k : Int)] = 2 ^ k := by simp [bitsS]
 constructor
 ·intro h
  rw [h,← h2]
  exact listS_bitsS (by simp) (by simp; omega)
 ·intro h
  rw [← bitsS_listS _ h1,h,h2]
def exC : RChest := ⟨3,4,[⟨#[97,110,97]⟩,⟨#[98,101,110]⟩],6,[⟨1,3,1,3⟩,⟨3,1,2,3⟩,⟨4,6,4,1⟩,⟨6,3,6,2⟩],[⟨3,3⟩]⟩
theorem ex_lost : lostR exC = ([2,5],0) := by kernel_rfl
theorem ex_find0 : findR exC 0 [0] = ([0,1],0) := by kernel_rfl
theorem ex_find1 : findR exC 1 [0] = ([0,1,3],0) := by kernel_rfl
theorem ex_key1 : keyR exC 0 1 = ([0,1],0) := by kernel_rfl
theorem ex_key3 : keyR exC 0 3 = ([],9) := by kernel_rfl
theorem ex_key14 : keyR exC 1 4 = ([],2) := by kernel_rfl
theorem ex_key2 : keyR exC 0 2 = ([],7) := by kernel_rfl
theorem ex_knows : knowsR exC [0,1] = ([0,1,3],0) := by kernel_rfl
theorem ex_why : whyR exC [0,1,2] 3 = ([0,1],0) := by kernel_rfl
theorem ex_why2 : whyR exC [2] 3 = ([],9) := by kernel_rfl
theorem ex_lock : lockR exC 1 1 = ([1,3],0) := by kernel_rfl
theorem ex_least : leastR exC 1 = ([0,3],0) := by kernel_rfl
theorem ex_names : namesFit exC := by
 intro s hs
 simp only [exC,List.mem_cons,List.not_mem_nil,or_false] at hs
 rcases hs with rfl | rfl <;> decide
theorem chest_c : PCall Tryz.prog 40 [] (chestA exC) := by
 intro m
 simp only [chestA,chestL,strs,exC,List.map_cons,List.map_nil,copyA,ruleA]
 (refine acall_intro (E := envC (modeAt [0] []) false []) (envCOk _ _ _) rfl Tryz.func40 rfl Tryz.call40 (by kernel_rfl) (by simp [Tryz.ntmps40]) ?_; simp only [Tryz.f40];  simp(maxSteps:=9^9)only[↓VP,VQ,seval])
 unfold vcSome
 simp only [buildFrom,placeOf]
 simp(maxSteps:=9^9)only[↓VP,VQ,seval]
theorem intsT_c (a : List Int) : PCall Tryz.prog 37 [ints a,ints a] (.bool true) := by
 have := ints_c a a
 rwa [decide_eq_true rfl] at this
theorem awake_c : PCall Tryz.prog 7 [] (.bool true) := by
 intro m
 have h0 := chest_c
 have h1 := lost_c exC ex_names
 have h2 := find_top exC ex_names 0 [0] (by decide)
 have h3 := find_top exC ex_names 1 [0] (by decide)
 have h4 := key_top exC ex_names 0 1 (by decide)
 have h5 := key_top exC ex_names 0 3 (by decide)
 have h6 := key_top exC ex_names 1 4 (by decide)
 have h7 := key_top exC ex_names 0 2 (by decide)
 have h8 := knows_top exC ex_names [0,1]
 have h9 := why_top exC ex_names [0,1,2] 3
 have h10 := why_top exC ex_names [2] 3
 have h11 := lock_top exC ex_names 1 1 (by decide)
 have h12 := least_top exC ex_names 1 (by decide)
 have i1 := intsT_c [2,5]
 have i2 := intsT_c [0,1]
 have i3 := intsT_c [0,1,3]
 have i4 := intsT_c [1,3]
 have i5 := intsT_c [0,3]
 rw [ex_lost] at h1; rw [ex_find0] at h2; rw [ex_find1] at h3; rw [ex_key1] at h4; rw [ex_key3] at h5; rw [ex_key14] at h6; rw [ex_key2] at h7
 rw [ex_knows] at h8; rw [ex_why] at h9; rw [ex_why2] at h10; rw [ex_lock] at h11; rw [ex_least] at h12
 simp only [chestA,chestL,strs,exC,List.map_cons,List.map_nil,copyA,ruleA,ints] at *
 (refine acall_intro (E := envC (modeAt [1] []) false []) (envCOk _ _ _) rfl Tryz.func7 rfl Tryz.call7 (by kernel_rfl) (by simp [Tryz.ntmps7]) ?_; simp only [Tryz.f7];  simp(maxSteps:=9^9)only[↓VP,VQ,seval])
 (refine ACall.pure (h0) ?_; try simp(maxSteps:=9^9)only[↓VP,VQ,seval])
 (refine ACall.pure (h1) ?_; try simp(maxSteps:=9^9)only[↓VP,VQ,seval])
 (refine ACall.pure (h2) ?_; try simp(maxSteps:=9^9)only[↓VP,VQ,seval])
 (refine ACall.pure (h3) ?_; try simp(maxSteps:=9^9)only[↓VP,VQ,seval])
 (refine ACall.pure (h4) ?_; try simp(maxSteps:=9^9)only[↓VP,VQ,seval])
 (refine ACall.pure (h5) ?_; try simp(maxSteps:=9^9)only[↓VP,VQ,seval])
 (refine ACall.pure (h6) ?_; try simp(maxSteps:=9^9)only[↓VP,VQ,seval])
 (refine ACall.pure (h7) ?_; try simp(maxSteps:=9^9)only[↓VP,VQ,seval])
 (refine ACall.pure (h8) ?_; try simp(maxSteps:=9^9)only[↓VP,VQ,seval])
 (refine ACall.pure (h9) ?_; try simp(maxSteps:=9^9)only[↓VP,VQ,seval])
 (refine ACall.pure (h10) ?_; try simp(maxSteps:=9^9)only[↓VP,VQ,seval])
 (refine ACall.pure (h11) ?_; try simp(maxSteps:=9^9)only[↓VP,VQ,seval])
 (refine ACall.pure (h12) ?_; try simp(maxSteps:=9^9)only[↓VP,VQ,seval])
 simp(maxSteps:=9^9)only[↓VP,VQ,seval,List.append_eq,eq_self,decide_true,if_true]
 (refine ACall.pure (i1) ?_; try simp(maxSteps:=9^9)only[↓VP,VQ,seval])
 (refine ACall.pure (i2) ?_; try simp(maxSteps:=9^9)only[↓VP,VQ,seval])
 (refine ACall.pure (i3) ?_; try simp(maxSteps:=9^9)only[↓VP,VQ,seval])
 (refine ACall.pure (i2) ?_; try simp(maxSteps:=9^9)only[↓VP,VQ,seval])
 (refine ACall.pure (i3) ?_; try simp(maxSteps:=9^9)only[↓VP,VQ,seval])
 (refine ACall.pure (i2) ?_; try simp(maxSteps:=9^9)only[↓VP,VQ,seval])
 (refine ACall.pure (i4) ?_; try simp(maxSteps:=9^9)only[↓VP,VQ,seval])
 (refine ACall.pure (i5) ?_; try simp(maxSteps:=9^9)only[↓VP,VQ,seval])
end Go.Proofs.YtdmejgfcaacdoaaGreat.Abs
