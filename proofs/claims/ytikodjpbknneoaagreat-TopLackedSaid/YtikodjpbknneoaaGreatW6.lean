/- Lemmas for the statements of this seat (W6): they hold without conditions beyond those that each one states. -/
import Derived.Test.YtikodjpbknneoaaGreatW5
import Derived.Test.YtikodjpbknneoaaGreatW2
/- Contracts: the reference's checks of a harbour. -/
namespace Go.Proofs.YtikodjpbknneoaaGreat.Abs
set_option linter.unusedSimpArgs false
set_option maxHeartbeats 4000000
set_option maxRecDepth 100000
open Go Go.RowKit Go.Proofs
theorem in_o (n lo hi : Int) : PCall Tryz.prog 13 [.int .i64 n,.int .i64 lo,.int .i64 hi] (.bool (!offP lo hi n)) := by
 have h := in_c n lo hi
 have e : decide (lo ≤ n ∧ n ≤ hi) = !offP lo hi n := by
  rw [Bool.eq_iff_iff]; simp [offP]
 rwa [e] at h
theorem refat_c (s : RShip) (p : Int) : PCall Tryz.prog 112 [shipA s,.int .i64 p] (.int .i64 (atC s.calls p)) := by
 intro m
 simp only [shipA,shipL]
 (refine acall_intro (E := env fun _ => .imm) (envOk _) rfl Tryz.func112 rfl Tryz.call112 (by kernel_rfl) (by simp [Tryz.ntmps112]) ?_; simp only [Tryz.f112];  simp(maxSteps:=9^9)only[↓VP,VQ,seval])
 refine aloop (envOk _) (fun k : Nat => ⟨[(1,.v (.int .i64 p)),(2,.v (.eptr [.str s.name,.int .i64 s.sails,.slice 2 (s.calls.map callA),.int .i64 s.lo,.int .i64 s.hi])),(5,.v (.int .i64 k))],[],[],m⟩)
  (fun k => k ≤ s.calls.length ∧ ∀ x ∈ s.calls.take k,¬ x.port = p) (fun k => s.calls.length - k) 0 (fun _ => rfl) (by simp) (by (simp only [FE,↓FP,seval]); try simp) ?_
 rintro k ⟨hk,hp⟩
 simp(maxSteps:=9^9)only[↓VP,VQ,seval,↓callA]
 repeat'(first|intro _|apply And.intro)
 all_goals try first|omega|(simp only[LL];omega)|exact nlC (by decide) _|exact nbC rfl
 ·have hlt : k < s.calls.length := by omega
  have q : (s.calls[k]!).port = p := by assumption
  unfold atC
  rw [idxL_at hlt (fun x hx => decide_eq_false (hp x hx)) (by rw [← getD_any hlt]; exact decide_eq_true q)]
 ·have hlt : k < s.calls.length := by omega
  have q : ¬ (s.calls[k]!).port = p := by assumption
  refine ⟨k + 1,⟨by omega,forall_take_succ (p := fun x : RCall => ¬ x.port = p) hlt hp (by rw [← getD_any hlt]; exact q)⟩,by dsimp only; omega,?_⟩
  (simp only [FE,↓FP,seval])
  simp
 ·rw [List.take_of_length_le (by omega)] at hp
  unfold atC
  rw [idxL_neg (fun x hx => decide_eq_false (hp x hx))]
theorem reftakes_c (s : RShip) (p d : Int) : PCall Tryz.prog 86 [shipA s,.int .i64 p,.int .i64 d] (.bool (takesB s p d)) := by
 intro m
 have h := refat_c s p
 simp only [shipA,shipL] at *
 have e : takesB s p d = (decide (d ≤ s.sails) && decide (0 ≤ atC s.calls p)) := rfl
 (refine acall_intro (E := env fun _ => .imm) (envOk _) rfl Tryz.func86 rfl Tryz.call86 (by kernel_rfl) (by simp [Tryz.ntmps86]) ?_; simp only [Tryz.f86];  simp(maxSteps:=9^9)only[↓VP,VQ,seval])
 repeat'(first|intro _|apply And.intro)
 ·((refine ACall.pure (h) ?_; try simp(maxSteps:=9^9)only[↓VP,VQ,seval]); try simp(maxSteps:=9^9)only[↓VP,VQ,seval,GL])
  repeat'(first|intro _|apply And.intro)
  rw [e]; congr 1; simp [*]
 ·rw [e]; congr 1; simp [*]
theorem port_c (h : RHarb) (hp : portsFit h) (n : Int) : PCall Tryz.prog 85 [harbA h,.int .i64 n] (.bool (!offP 0 (h.ports - 1) n)) := by
 intro m
 unfold portsFit at hp
 have h1 := in_o n 0 (h.ports - 1)
 simp only [harbA,harbL] at *
 (refine acall_intro (E := env fun _ => .imm) (envOk _) rfl Tryz.func85 rfl Tryz.call85 (by kernel_rfl) (by simp [Tryz.ntmps85]) ?_; simp only [Tryz.f85];  simp(maxSteps:=9^9)only[↓VP,VQ,seval])
 repeat'(first|intro _|apply And.intro)
 all_goals try first|omega|(simp only[LL];omega)|exact nlC (by decide) _|exact nbC rfl
 ((refine ACall.pure (h1) ?_; try simp(maxSteps:=9^9)only[↓VP,VQ,seval]); try simp(maxSteps:=9^9)only[↓VP,VQ,seval,GL])
theorem ends_c (lo hi a b : Int) : PCall Tryz.prog 83 [.agg [.int .i64 a,.int .i64 b],.int .i64 lo,.int .i64 hi] (.int .i64 (if (offP lo hi a || offP lo hi b) = true then 7 else if b < a then 2 else 0)) := by
 intro m
 have h1 := in_o a lo hi
 have h2 := in_o b lo hi
 have e : (if (offP lo hi a || offP lo hi b) = true then (7 : Int) else if b < a then 2 else 0) = if (offP lo hi a || offP lo hi b) = true then (7 : Int) else if b < a then 2 else 0 := rfl
 (refine acall_intro (E := env fun _ => .imm) (envOk _) rfl Tryz.func83 rfl Tryz.call83 (by kernel_rfl) (by simp [Tryz.ntmps83]) ?_; simp only [Tryz.f83];  simp(maxSteps:=9^9)only[↓VP,VQ,seval])
 ((refine ACall.pure (h1) ?_; try simp(maxSteps:=9^9)only[↓VP,VQ,seval]); try simp(maxSteps:=9^9)only[↓VP,VQ,seval,GL])
 repeat'(first|intro _|apply And.intro)
 all_goals try first|omega|(simp only[LL];omega)|exact nlC (by decide) _|exact nbC rfl
 ·((refine ACall.pure (h2) ?_; try simp(maxSteps:=9^9)only[↓VP,VQ,seval]); try simp(maxSteps:=9^9)only[↓VP,VQ,seval,GL])
  repeat'(first|intro _|apply And.intro)
  all_goals try first|omega|(simp only[LL];omega)|exact nlC (by decide) _|exact nbC rfl
  all_goals (first | (rw [e]; (repeat' split) <;> first | rfl | (exfalso; omega) | (exfalso; simp_all; done) | (exfalso; simp_all; omega)))
 ·(first | (rw [e]; (repeat' split) <;> first | rfl | (exfalso; omega) | (exfalso; simp_all; done) | (exfalso; simp_all; omega)))
def callsE (ports : Int) (l : List RCall) : Int := if 3 < l.length then 3 else (failFrom (callErr ports l) 0 l).2
theorem calls_c (h : RHarb) (hp : portsFit h) (l : List RCall) : PCall Tryz.prog 84 [harbA h,.slice 2 (l.map callA)] (.int .i64 (callsE h.ports l)) := by
 intro m
 have h1 := fun n => port_c h hp n
 have h2 := fun n => in_o n 1 20
 have e : callsE h.ports l = if 3 < l.length then 3 else (failFrom (callErr h.ports l) 0 l).2 := rfl
 simp only [harbA,harbL] at *
 (refine acall_intro (E := env fun _ => .imm) (envOk _) rfl Tryz.func84 rfl Tryz.call84 (by kernel_rfl) (by simp [Tryz.ntmps84]) ?_; simp only [Tryz.f84];  simp(maxSteps:=9^9)only[↓VP,VQ,seval])
 repeat'(first|intro _|apply And.intro)
 ·rw [e,if_pos (by omega)]
 rw [if_neg (by omega)] at e
 refine aloop (envOk _) (fun k : Nat => ⟨[(1,.v (.slice 2 (l.map callA))),(2,.v (.eptr [.int .i64 h.ports,.int .i64 h.lost,.slice 5 (h.ships.map shipA),.slice 3 (h.letters.map letA),.slice 4 (h.reports.map repA)])),(5,.v (.int .i64 k))],[],[],m⟩)
  (fun k => k ≤ l.length ∧ failFrom (callErr h.ports l) k (l.drop k) = failFrom (callErr h.ports l) 0 l) (fun k => l.length - k) 0 (fun _ => rfl) (by simp) (by (simp only [FE,↓FP,seval]); try simp) ?_
 rintro k ⟨hk,hf⟩
 simp(maxSteps:=9^9)only[↓VP,VQ,seval]
 repeat'(first|intro _|apply And.intro)
 all_goals try first|omega|(simp only[LL];omega)|exact nlC (by decide) _|exact nbC rfl
 ·have hlt : k < l.length := by omega
  have e1 : l[k]! = l[k] := getD_any hlt
  rw [List.drop_eq_getElem_cons hlt] at hf
  have ec : callErr h.ports l k l[k] = if offP 0 (h.ports - 1) (l[k]!).port = true then 4 else if atC l (l[k]!).port < k then 5 else if offP 1 20 (l[k]!).after = true then 7 else if 0 < k ∧ (l[k]!).after ≤ (l[k - 1]!).after then 2 else 0 := by rw [e1]; rfl
  have hit : callErr h.ports l k l[k] ≠ 0 → callsE h.ports l = callErr h.ports l k l[k] := fun q => by rw [e,← hf,failFrom_hit q]
  have hp' := h1 (l[k]!).port
  (refine adraw (by first | exact envOk _ | exact envCOk _ _ _) mixed [⟨false,false,0⟩,⟨false,false,0⟩,⟨false,false,0⟩,⟨false,false,0⟩,⟨false,false,0⟩,⟨false,false,0⟩,⟨false,false,0⟩,⟨false,false,0⟩] (by kernel_rfl) ?_; show vcOpsD _ _ _ (_ :: _) _ _)
  simp(maxSteps:=9^9)only[↓VP,VQ,seval,↓callA]
  repeat'(first|intro _|apply And.intro)
  all_goals try first|omega|(simp only[LL];omega)|exact nlC (by decide) _|exact nbC rfl
  refine VPure.of hp' ?_
  simp(maxSteps:=9^9)only[↓VP,VQ,seval]
  repeat'(first|intro _|apply And.intro)
  all_goals try first|omega|(simp only[LL];omega)|exact nlC (by decide) _|exact nbC rfl
  ·have q : offP 0 (h.ports - 1) (l[k]!).port = true := by assumption
   rw [if_pos q] at ec
   rw [hit (by rw [ec]; decide),ec]
  have q : ¬ offP 0 (h.ports - 1) (l[k]!).port = true := by assumption
  rw [if_neg q] at ec
  refine aloop (envOk _) (fun j : Nat => ⟨[(1,.v (.slice 2 (l.map callA))),(2,.v (.eptr [.int .i64 h.ports,.int .i64 h.lost,.slice 5 (h.ships.map shipA),.slice 3 (h.letters.map letA),.slice 4 (h.reports.map repA)])),(5,.v (.int .i64 k)),(6,.v (.int .i64 j))],[],[],m⟩)
   (fun j => j ≤ k ∧ ∀ x ∈ l.take j,¬ x.port = (l[k]!).port) (fun j => k - j) 0 (fun _ => rfl) (by simp) (by (simp only [FE,↓FP,seval]); try simp) ?_
  rintro j ⟨hj,hjp⟩
  simp(maxSteps:=9^9)only[↓VP,VQ,seval,↓callA]
  repeat'(first|intro _|apply And.intro)
  all_goals try first|omega|(simp only[LL];omega)|exact nlC (by decide) _|exact nbC rfl
  ·have hjl : j < l.length := by omega
   (refine adraw (by first | exact envOk _ | exact envCOk _ _ _) mixed [⟨false,false,0⟩,⟨false,false,0⟩,⟨false,false,0⟩,⟨false,false,0⟩,⟨false,false,0⟩,⟨false,false,0⟩,⟨false,false,0⟩,⟨false,false,0⟩,⟨false,false,0⟩,⟨false,false,0⟩,⟨false,false,0⟩] (by kernel_rfl) ?_; show vcOpsD _ _ _ (_ :: _) _ _)
   simp(maxSteps:=9^9)only[↓VP,VQ,seval,↓callA]
   repeat'(first|intro _|apply And.intro)
   all_goals try first|omega|(simp only[LL];omega)|exact nlC (by decide) _|exact nbC rfl
   ·have q2 : (l[j]!).port = (l[k]!).port := by assumption
    have hat : atC l (l[k]!).port = j := by
     unfold atC
     rw [idxL_at hjl (fun x hx => decide_eq_false (hjp x hx)) (by rw [← getD_any hjl]; exact decide_eq_true q2)]
    rw [if_pos (by rw [hat]; omega)] at ec
    rw [hit (by rw [ec]; decide),ec]
   ·have q2 : ¬ (l[j]!).port = (l[k]!).port := by assumption
    refine ⟨j + 1,⟨by omega,forall_take_succ (p := fun x : RCall => ¬ x.port = (l[k]!).port) hjl hjp (by rw [← getD_any hjl]; exact q2)⟩,by dsimp only; omega,?_⟩
    (simp only [FE,↓FP,seval])
    simp
  ·have ejk : j = k := by omega
   subst ejk
   have hat : atC l (l[j]!).port = j := by
    unfold atC
    rw [idxL_at hlt (fun x hx => decide_eq_false (hjp x hx)) (by rw [← getD_any hlt]; exact decide_eq_true rfl)]
   rw [if_neg (by rw [hat]; omega)] at ec
   have hq := h2 (l[j]!).after
   ((refine ACall.pure (hq) ?_; try simp(maxSteps:=9^9)only[↓VP,VQ,seval]); try simp(maxSteps:=9^9)only[↓VP,VQ,seval,GL])
   repeat'(first|intro _|apply And.intro)
   all_goals try first|omega|(simp only[LL];omega)|exact nlC (by decide) _|exact nbC rfl
   ·have q3 : offP 1 20 (l[j]!).after = true := by assumption
    rw [if_pos q3] at ec
    rw [hit (by rw [ec]; decide),ec]
   have q3 : ¬ offP 1 20 (l[j]!).after = true := by assumption
   rw [if_neg q3] at ec
   have hn : ((j : Int) - 1).toNat = j - 1 := by omega
   (refine adraw (by first | exact envOk _ | exact envCOk _ _ _) mixed [⟨false,false,0⟩,⟨false,false,0⟩,⟨false,false,0⟩,⟨false,false,0⟩,⟨false,false,0⟩,⟨false,false,0⟩,⟨false,false,0⟩,⟨false,false,0⟩,⟨false,false,0⟩,⟨false,false,0⟩,⟨false,false,0⟩,⟨false,false,0⟩,⟨false,false,0⟩,⟨false,false,0⟩,⟨false,false,0⟩,⟨false,false,0⟩] (by kernel_rfl) ?_; show vcOpsD _ _ _ (_ :: _) _ _)
   simp(maxSteps:=9^9)only[↓VP,VQ,seval,↓callA,hn]
   repeat'(first|intro _|apply And.intro)
   all_goals try first|omega|(simp only[LL];omega)|exact nlC (by decide) _|exact nbC rfl
   ·have q4 : 0 < j ∧ (l[j]!).after ≤ (l[j - 1]!).after := ⟨by omega,by assumption⟩
    rw [if_pos q4] at ec
    rw [hit (by rw [ec]; decide),ec]
   all_goals
    have q4 : ¬ (0 < j ∧ (l[j]!).after ≤ (l[j - 1]!).after) := fun h => by omega
    rw [if_neg q4] at ec
    rw [failFrom_skip (by rw [ec]; simp)] at hf
    refine ⟨j + 1,⟨by omega,hf⟩,by dsimp only; omega,?_⟩
    (simp only [FE,↓FP,seval])
    simp
 ·rw [List.drop_eq_nil_of_le (by omega)] at hf
  rw [e,← hf]; rfl
theorem fitE_calls (ports : Int) (s : RShip) : fitE ports s = if (offP 0 20 s.sails || (offP 0 3 s.lo || offP 0 3 s.hi)) = true then 7 else if s.hi < s.lo then 2 else callsE ports s.calls := rfl
theorem fitE_ends (ports : Int) (s : RShip) : fitE ports s = if offP 0 20 s.sails = true ∨ (if (offP 0 3 s.lo || offP 0 3 s.hi) = true then (7 : Int) else if s.hi < s.lo then 2 else 0) = 7 then 7
  else if (if (offP 0 3 s.lo || offP 0 3 s.hi) = true then (7 : Int) else if s.hi < s.lo then 2 else 0) ≠ 0 then (if (offP 0 3 s.lo || offP 0 3 s.hi) = true then (7 : Int) else if s.hi < s.lo then 2 else 0) else callsE ports s.calls := by
 rw [fitE_calls]
 cases offP 0 20 s.sails <;> cases (offP 0 3 s.lo || offP 0 3 s.hi) <;> by_cases h : s.hi < s.lo <;> simp [h]
theorem refship_c (h : RHarb) (hp : portsFit h) (s : RShip) : PCall Tryz.prog 45 [harbA h,shipA s] (.int .i64 (fitE h.ports s)) := by
 intro m
 have h1 := ends_c 0 3 s.lo s.hi
 have h2 := in_o s.sails 0 20
 have h3 := calls_c h hp s.calls
 have e := fitE_ends h.ports s
 generalize (if (offP 0 3 s.lo || offP 0 3 s.hi) = true then (7 : Int) else if s.hi < s.lo then 2 else 0) = le at *
 generalize callsE h.ports s.calls = ce at *
 generalize fitE h.ports s = W at *
 simp only [harbA,harbL,shipA,shipL] at h1 h2 h3 ⊢
 (refine acall_intro (E := env fun _ => .imm) (envOk _) rfl Tryz.func45 rfl Tryz.call45 (by kernel_rfl) (by simp [Tryz.ntmps45]) ?_; simp only [Tryz.f45];  simp(maxSteps:=9^9)only[↓VP,VQ,seval])
 ((refine ACall.pure (h1) ?_; try simp(maxSteps:=9^9)only[↓VP,VQ,seval]); try simp(maxSteps:=9^9)only[↓VP,VQ,seval,GL])
 ((refine ACall.pure (h2) ?_; try simp(maxSteps:=9^9)only[↓VP,VQ,seval]); try simp(maxSteps:=9^9)only[↓VP,VQ,seval,GL])
 repeat'(first|intro _|apply And.intro)
 ·rw [e,if_pos (.inr (by assumption))]
 ·have q1 : ¬ le = 7 := by assumption
  have q2 : ¬ le = 0 := by assumption
  rw [e,if_neg (by simp [*]),if_pos q2]
 ·have q1 : ¬ le = 7 := by assumption
  have q2 : le = 0 := by omega
  ((refine ACall.pure (h3) ?_; try simp(maxSteps:=9^9)only[↓VP,VQ,seval]); try simp(maxSteps:=9^9)only[↓VP,VQ,seval,GL])
  rw [e,if_neg (by simp [*]),if_neg (by omega)]
 ·rw [e,if_pos (.inl (by (first | assumption | (rw [← Bool.not_eq_false]; assumption) | (rw [← Bool.not_eq_true]; assumption) | omega)))]
theorem letter_c (h : RHarb) (hp : portsFit h) (hs : h.ships.length ≤ 3) (x : RLet) : PCall Tryz.prog 46 [harbA h,letA x] (.int .i64 (letErr h.ports h.ships x)) := by
 intro m
 have h1 := port_c h hp x.port
 have h2 := in_o x.day 0 20
 have h3 := in_o x.ship (-1) ((h.ships.length : Int) - 1)
 have h4 := reftakes_c (h.ships[x.ship.toNat]!) x.port x.day
 have e : letErr h.ports h.ships x = if offP 0 (h.ports - 1) x.port = true then 4 else if offP 0 20 x.day = true then 7 else if offP (-1) ((h.ships.length : Int) - 1) x.ship = true then 4
  else if x.ship ≠ -1 ∧ takesB (h.ships[x.ship.toNat]!) x.port x.day = false then 2 else 0 := rfl
 have hof : ¬ offP (-1) ((h.ships.length : Int) - 1) x.ship = true → -1 ≤ x.ship ∧ x.ship ≤ (h.ships.length : Int) - 1 := fun q => by simp [offP] at q; omega
 generalize takesB (h.ships[x.ship.toNat]!) x.port x.day = tk at *
 simp only [harbA,harbL,letA,shipA,shipL] at h1 h2 h3 h4 ⊢
 (refine acall_intro (E := env fun _ => .imm) (envOk _) rfl Tryz.func46 rfl Tryz.call46 (by kernel_rfl) (by simp [Tryz.ntmps46]) ?_; simp only [Tryz.f46];  simp(maxSteps:=9^9)only[↓VP,VQ,seval])
 ((refine ACall.pure (h1) ?_; try simp(maxSteps:=9^9)only[↓VP,VQ,seval]); try simp(maxSteps:=9^9)only[↓VP,VQ,seval,GL])
 repeat'(first|intro _|apply And.intro)
 all_goals try first|omega|(simp only[LL];omega)|exact nlC (by decide) _|exact nbC rfl
 ·(first | (rw [e]; (repeat' split) <;> first | rfl | (exfalso; omega) | (exfalso; simp_all; done) | (exfalso; simp_all; omega)))
 ((refine ACall.pure (h2) ?_; try simp(maxSteps:=9^9)only[↓VP,VQ,seval]); try simp(maxSteps:=9^9)only[↓VP,VQ,seval,GL])
 repeat'(first|intro _|apply And.intro)
 all_goals try first|omega|(simp only[LL];omega)|exact nlC (by decide) _|exact nbC rfl
 ·(first | (rw [e]; (repeat' split) <;> first | rfl | (exfalso; omega) | (exfalso; simp_all; done) | (exfalso; simp_all; omega)))
 ((refine ACall.pure (h3) ?_; try simp(maxSteps:=9^9)only[↓VP,VQ,seval]); try simp(maxSteps:=9^9)only[↓VP,VQ,seval,GL])
 repeat'(first|intro _|apply And.intro)
 all_goals try first|omega|(simp only[LL];omega)|exact nlC (by decide) _|exact nbC rfl
 ·(first | (rw [e]; (repeat' split) <;> first | rfl | (exfalso; omega) | (exfalso; simp_all; done) | (exfalso; simp_all; omega)))
 (refine adraw (by first | exact envOk _ | exact envCOk _ _ _) mixed [⟨false,false,0⟩,⟨false,false,0⟩,⟨false,false,0⟩,⟨false,false,0⟩,⟨false,false,0⟩,⟨false,false,0⟩,⟨false,false,0⟩,⟨false,false,0⟩,⟨false,false,0⟩,⟨false,false,0⟩,⟨false,false,0⟩,⟨false,false,0⟩,⟨false,false,0⟩,⟨false,false,0⟩,⟨false,false,0⟩,⟨false,false,0⟩,⟨false,false,0⟩] (by kernel_rfl) ?_; show vcOpsD _ _ _ (_ :: _) _ _)
 simp(maxSteps:=9^9)only[↓VP,VQ,seval,↓shipA,shipL]
 repeat'(first|intro _|apply And.intro)
 all_goals try first|omega|(simp only[LL];omega)|exact nlC (by decide) _|exact nbC rfl
 ·have := hof (by assumption); omega
 ·have := hof (by assumption); omega
 ·refine VPure.of h4 ?_
  simp(maxSteps:=9^9)only[↓VP,VQ,seval]
  repeat'(first|intro _|apply And.intro)
  all_goals try first|omega|(simp only[LL];omega)|exact nlC (by decide) _|exact nbC rfl
  all_goals (first | (rw [e]; (repeat' split) <;> first | rfl | (exfalso; omega) | (exfalso; simp_all; done) | (exfalso; simp_all; omega)))
 all_goals (first | (rw [e]; (repeat' split) <;> first | rfl | (exfalso; omega) | (exfalso; simp_all; done) | (exfalso; simp_all; omega)))
theorem report_c (h : RHarb) (hp : portsFit h) (hs : h.ships.length ≤ 3) (hl : h.letters.length ≤ 4) (x : RRep) : PCall Tryz.prog 47 [harbA h,repA x] (.int .i64 (repErr h.ports h.ships.length h.letters.length x)) := by
 intro m
 obtain ⟨kind,of_,port,day⟩ := x
 have h1 := in_o kind 0 3
 have h2 := in_o of_ 0 ((h.ships.length : Int) - 1)
 have h2' := in_o of_ 0 ((h.letters.length : Int) - 1)
 have h3 := port_c h hp port
 have h4 := in_o day 0 60
 have e : repErr h.ports h.ships.length h.letters.length ⟨kind,of_,port,day⟩ = if offP 0 3 kind = true then 7 else if (offP 0 ((if kind < 2 then (h.ships.length : Int) else h.letters.length) - 1) of_ || offP 0 (h.ports - 1) port) = true then 4
  else if 2 ≤ kind ∧ port ≠ 0 then 2 else if offP 0 60 day = true then 7 else 0 := rfl
 by_cases hk : kind < 2
 ·rw [if_pos hk] at e
  simp only [harbA,harbL,repA] at *
  (refine acall_intro (E := env fun _ => .imm) (envOk _) rfl Tryz.func47 rfl Tryz.call47 (by kernel_rfl) (by simp [Tryz.ntmps47]) ?_; simp only [Tryz.f47];  simp(maxSteps:=9^9)only[↓VP,VQ,seval])
  (repeat' (first | intro _ | refine And.intro ?_ ?_ | ((refine ACall.pure (by with_reducible assumption) ?_; try simp(maxSteps:=9^9)only[↓VP,VQ,seval]); try simp(maxSteps:=9^9)only[↓VP,VQ,seval,GL]) | (refine VPure.of (by with_reducible assumption) ?_; try simp(maxSteps:=9^9)only[↓VP,VQ,seval,GL])))
  all_goals try first|omega|(simp only[LL];omega)|exact nlC (by decide) _|exact nbC rfl
  all_goals (first | (rw [e]; (repeat' split) <;> first | rfl | (exfalso; omega) | (exfalso; simp_all; done) | (exfalso; simp_all; omega)))
 ·rw [if_neg hk] at e
  simp only [harbA,harbL,repA] at *
  (refine acall_intro (E := env fun _ => .imm) (envOk _) rfl Tryz.func47 rfl Tryz.call47 (by kernel_rfl) (by simp [Tryz.ntmps47]) ?_; simp only [Tryz.f47];  simp(maxSteps:=9^9)only[↓VP,VQ,seval])
  (repeat' (first | intro _ | refine And.intro ?_ ?_ | ((refine ACall.pure (by with_reducible assumption) ?_; try simp(maxSteps:=9^9)only[↓VP,VQ,seval]); try simp(maxSteps:=9^9)only[↓VP,VQ,seval,GL]) | (refine VPure.of (by with_reducible assumption) ?_; try simp(maxSteps:=9^9)only[↓VP,VQ,seval,GL])))
  all_goals try first|omega|(simp only[LL];omega)|exact nlC (by decide) _|exact nbC rfl
  all_goals (first | (rw [e]; (repeat' split) <;> first | rfl | (exfalso; omega) | (exfalso; simp_all; done) | (exfalso; simp_all; omega)))
theorem ixShip (l : List RShip) (i : Int) (K : AV → Prop) : VIdx (l.map shipA) i K ↔ (0 ≤ i ∧ i.toNat < l.length) ∧ K (.agg [.str (l[i.toNat]!).name,.int .i64 (l[i.toNat]!).sails,.slice 2 ((l[i.toNat]!).calls.map callA),.int .i64 (l[i.toNat]!).lo,.int .i64 (l[i.toNat]!).hi]) := VIdx_map shipA l i K
theorem ixCall (l : List RCall) (i : Int) (K : AV → Prop) : VIdx (l.map callA) i K ↔ (0 ≤ i ∧ i.toNat < l.length) ∧ K (.agg [.int .i64 (l[i.toNat]!).port,.int .i64 (l[i.toNat]!).after]) := VIdx_map callA l i K
theorem ixLet (l : List RLet) (i : Int) (K : AV → Prop) : VIdx (l.map letA) i K ↔ (0 ≤ i ∧ i.toNat < l.length) ∧ K (.agg [.int .i64 (l[i.toNat]!).port,.int .i64 (l[i.toNat]!).day,.int .i64 (l[i.toNat]!).ship]) := VIdx_map letA l i K
theorem ixRep (l : List RRep) (i : Int) (K : AV → Prop) : VIdx (l.map repA) i K ↔ (0 ≤ i ∧ i.toNat < l.length) ∧ K (.agg [.int .i64 (l[i.toNat]!).kind,.int .i64 (l[i.toNat]!).of_,.int .i64 (l[i.toNat]!).port,.int .i64 (l[i.toNat]!).day]) := VIdx_map repA l i K
theorem VX : type_of% (And.intro VP <| And.intro @ixShip <| And.intro @ixCall <| And.intro @ixLet @ixRep) := And.intro VP <| And.intro @ixShip <| And.intro @ixCall <| And.intro @ixLet @ixRep
theorem any_names (l : List RShip) (n : ByteArray) : (l.map RShip.name).any (fun x => decide (x = n)) = l.any fun x => decide (x.name = n) := by
 rw [List.any_map]; rfl
theorem refcheck_c (h : RHarb) (hs : hnamesFit h) : PCall Tryz.prog 12 [harbA h] (.tuple [.int .i64 (checkH h).1,.int .i64 (checkH h).2.1,.int .i64 (checkH h).2.2]) := by
 have hc1 := in_o h.ports 1 4
 have hc2 := in_o h.lost 0 3
 intro m
 by_cases h0 : (offP 1 4 h.ports || offP 0 3 h.lost) = true
 ·rw [checkH_first h0]
  simp only [harbA,harbL]
  cases h1 : offP 1 4 h.ports
  ·cases h2 : offP 0 3 h.lost
   ·simp [h1,h2] at h0
   ·rw [h1] at hc1; rw [h2] at hc2
    (refine acall_intro (E := env fun _ => .imm) (envOk _) rfl Tryz.func12 rfl Tryz.call12 (by kernel_rfl) (by simp [Tryz.ntmps12]) ?_; simp only [Tryz.f12];  simp(maxSteps:=9^9)only[↓VX,VQ,seval])
    ((refine ACall.pure (hc1) ?_; try simp(maxSteps:=9^9)only[↓VX,VQ,seval]); try simp(maxSteps:=9^9)only[↓VX,VQ,seval,GL])
    ((refine ACall.pure (hc2) ?_; try simp(maxSteps:=9^9)only[↓VX,VQ,seval]); try simp(maxSteps:=9^9)only[↓VX,VQ,seval,GL])
  ·rw [h1] at hc1
   (refine acall_intro (E := env fun _ => .imm) (envOk _) rfl Tryz.func12 rfl Tryz.call12 (by kernel_rfl) (by simp [Tryz.ntmps12]) ?_; simp only [Tryz.f12];  simp(maxSteps:=9^9)only[↓VX,VQ,seval])
   ((refine ACall.pure (hc1) ?_; try simp(maxSteps:=9^9)only[↓VX,VQ,seval]); try simp(maxSteps:=9^9)only[↓VX,VQ,seval,GL])
 ·have h1 : offP 1 4 h.ports = false := by revert h0; cases offP 1 4 h.ports <;> simp
  have h2 : offP 0 3 h.lost = false := by revert h0; cases offP 0 3 h.lost <;> simp
  rw [h1] at hc1; rw [h2] at hc2
  have hp : portsFit h := by unfold portsFit; simp [offP] at h1; omega
  have hf1 := fun (s : RShip) (q : s.name.size ≤ 9223372036854775807) (k : Nat) => fresh_c s.name ((h.ships.take k).map RShip.name) q
  have hf2 := fun (s : RShip) => refship_c h hp s
  have hf3 := fun (q : h.ships.length ≤ 3) (x : RLet) => letter_c h hp q x
  have hf4 := fun (q : h.ships.length ≤ 3) (q2 : h.letters.length ≤ 4) (x : RRep) => report_c h hp q q2 x
  have e : checkH h = if 3 < h.ships.length then (2,0,3)
    else if (shipsE h).2 ≠ 0 then (2,(shipsE h).1,(shipsE h).2)
    else if 4 < h.letters.length then (3,0,3)
    else if (lettersE h).2 ≠ 0 then (3,(lettersE h).1,(lettersE h).2)
    else if 5 < h.reports.length then (4,0,3)
    else if (reportsE h).2 ≠ 0 then (4,(reportsE h).1,(reportsE h).2)
    else (0,0,0) := by unfold checkH; rw [if_neg h0]
  generalize checkH h = W at *
  simp only [harbA,harbL,strs] at *
  (refine acall_intro (E := envC (fun _ => .imm) false [9]) (envCOk _ _ _) rfl Tryz.func12 rfl Tryz.call12 (by kernel_rfl) (by simp [Tryz.ntmps12]) ?_; simp only [Tryz.f12];  simp(maxSteps:=9^9)only[↓VX,VQ,seval])
  ((refine ACall.pure (hc1) ?_; try simp(maxSteps:=9^9)only[↓VX,VQ,seval]); try simp(maxSteps:=9^9)only[↓VX,VQ,seval,GL])
  ((refine ACall.pure (hc2) ?_; try simp(maxSteps:=9^9)only[↓VX,VQ,seval]); try simp(maxSteps:=9^9)only[↓VX,VQ,seval,GL])
  repeat'(first|intro _|apply And.intro)
  ·rw [e,if_pos (by omega)]
  have h4 : ¬ 3 < h.ships.length := by omega
  rw [if_neg h4] at e
  refine aloop (envCOk _ _ _) (fun k : Nat => ⟨[(1,.v (.eptr [.int .i64 h.ports,.int .i64 h.lost,.slice 5 (h.ships.map shipA),.slice 3 (h.letters.map letA),.slice 4 (h.reports.map repA)])),(5,.v (.slice 1 (((h.ships.take k).map RShip.name).map AV.str))),(6,.v (.int .i64 k))],[5],[],m⟩)
   (fun k => k ≤ h.ships.length ∧ failFrom (shipErr h.ports h.ships) k (h.ships.drop k) = shipsE h) (fun k => h.ships.length - k) 0 (fun _ => rfl) ⟨by omega,by simp [shipsE]⟩ (by (simp only [FE,↓FP,seval]); try simp) ?_
  rintro k ⟨hk,hf⟩
  simp(maxSteps:=9^9)only[↓VX,VQ,seval]
  repeat'(first|intro _|apply And.intro)
  all_goals try first|omega|(simp only[LL];omega)|exact nlC (by decide) _|exact nbC rfl
  ·have hlt : k < h.ships.length := by omega
   have e1 : h.ships[k]! = h.ships[k] := getD_any hlt
   have hsz : (h.ships[k]!).name.size ≤ 9223372036854775807 := hs _ (by rw [e1]; exact List.getElem_mem hlt)
   rw [List.drop_eq_getElem_cons hlt] at hf
   have hfr := hf1 (h.ships[k]!) hsz k
   have hsh := hf2 (h.ships[k]!)
   simp only [shipA,shipL] at hsh
   have es : shipErr h.ports h.ships k h.ships[k] = if nameB (h.ships[k]!).name = true then (if (h.ships.take k).any (fun x => decide (x.name = (h.ships[k]!).name)) = true then 5 else fitE h.ports (h.ships[k]!)) else 6 := by rw [e1]; rfl
   rw [any_names] at hfr
   have htk : (h.ships.take (k + 1)).map RShip.name = (h.ships.take k).map RShip.name ++ [(h.ships[k]!).name] := by rw [e1,List.take_succ_eq_append_getElem hlt,List.map_append]; rfl
   generalize fitE h.ports (h.ships[k]!) = fe at *
   generalize (h.ships.take k).any (fun x => decide (x.name = (h.ships[k]!).name)) = tw at *
   have hit : shipErr h.ports h.ships k h.ships[k] ≠ 0 → shipsE h = ((k : Int),shipErr h.ports h.ships k h.ships[k]) := fun q => by rw [← hf,failFrom_hit q]
   generalize hse0 : shipErr h.ports h.ships k h.ships[k] = se at *
   have hnl : ((h.ships.take k).map RShip.name).length ≤ 3 := by rw [List.length_map,List.length_take]; omega
   refine acut_keep_at 6 (envCOk _ _ _) rfl rfl rfl (fun (_ : Unit) => ⟨[(1,.v (.eptr [.int .i64 h.ports,.int .i64 h.lost,.slice 5 (h.ships.map shipA),.slice 3 (h.letters.map letA),.slice 4 (h.reports.map repA)])),(5,.v (.slice 1 (((h.ships.take k).map RShip.name).map AV.str))),(6,.v (.int .i64 k)),(7,.v (.int .i64 (if nameB (h.ships[k]!).name = true then (if tw = true then 5 else 0) else 6)))],[5],[],m⟩) (fun _ => True) (fun _ => rfl) ?_ ?_
   ·show vcOps _ _ (_ :: _) _ _
    simp(maxSteps:=9^9)only[↓VX,VQ,seval,List.take_succ_cons,List.take_zero,SV.refs,not_false_eq_true,implies_true]
    repeat'(first|intro _|apply And.intro)
    all_goals try first|omega|(simp only[LL];omega)|exact nlC (by decide) _|exact nbC rfl
    ((refine ACall.pure (hfr) ?_; try simp(maxSteps:=9^9)only[↓VX,VQ,seval]); try simp(maxSteps:=9^9)only[↓VX,VQ,seval,GL])
    exact ⟨(),by (simp only [FE,↓FP,seval])⟩
   intro _ _
   have hnl2 : (List.take k h.ships).length ≤ 3 := by rw [List.length_take]; omega
   generalize hfe : (if nameB (h.ships[k]!).name = true then (if tw = true then (5 : Int) else 0) else 6) = fr at *
   simp(maxSteps:=9^9)only[↓VX,VQ,seval]
   repeat'(first|intro _|apply And.intro)
   all_goals try first|omega|(simp only[LL];omega)|exact nlC (by decide) _|exact nbC rfl
   ·have q : fr = 0 := by assumption
    have hfr0 : nameB (h.ships[k]!).name = true ∧ ¬ tw = true := by
     rw [q] at hfe
     split at hfe
     ·split at hfe
      ·cases hfe
      ·exact ⟨by assumption,by assumption⟩
     ·cases hfe
    rw [if_pos hfr0.1,if_neg hfr0.2] at es
    (refine adraw (by first | exact envOk _ | exact envCOk _ _ _) mixed [⟨false,false,0⟩,⟨false,false,0⟩,⟨false,false,0⟩,⟨false,false,0⟩,⟨false,false,0⟩,⟨false,false,0⟩,⟨false,false,0⟩,⟨false,false,0⟩] (by kernel_rfl) ?_; show vcOpsD _ _ _ (_ :: _) _ _)
    simp(maxSteps:=9^9)only[↓VX,VQ,seval]
    repeat'(first|intro _|apply And.intro)
    all_goals try first|omega|(simp only[LL];omega)|exact nlC (by decide) _|exact nbC rfl
    (refine ⟨_,.inl (hsh),?_⟩; try simp(maxSteps:=9^9)only[↓VX,VQ,seval])
    repeat'(first|intro _|apply And.intro)
    all_goals try first|omega|(simp only[LL];omega)|exact nlC (by decide) _|exact nbC rfl
    ·have q2 : fe ≠ 0 := by assumption
     have hh := hit (by rw [es]; exact q2)
     rw [hh,es,if_pos q2] at e
     rw [e]
    ·have q2 : ¬ fe ≠ 0 := by omega
     rw [failFrom_skip (by rw [hse0,es]; exact q2)] at hf
     refine ⟨k + 1,⟨by omega,hf⟩,by dsimp only; omega,?_⟩
     (simp only [FE,↓FP,seval])
     rw [htk]
     simp
   ·have q : ¬ fr = 0 := by assumption
    have hes : se = fr := by
     rw [es,← hfe]
     split
     ·split
      ·rfl
      ·rename_i q1 q2
       rw [if_pos q1,if_neg q2] at hfe
       exact absurd hfe.symm q
     ·rfl
    have hh := hit (by rw [hes]; exact q)
    rw [hh,hes,if_pos q] at e
    rw [e]
  ·have hke : k = h.ships.length := by omega
   rw [List.drop_eq_nil_of_le (by omega)] at hf
   have hse : shipsE h = (0,0) := hf.symm
   rw [hse,if_neg (by decide)] at e
   rw [e,if_pos (by omega)]
  have hke : k = h.ships.length := by omega
  rw [List.drop_eq_nil_of_le (by omega)] at hf
  have hse : shipsE h = (0,0) := hf.symm
  have h6 : ¬ 4 < h.letters.length := by omega
  rw [hse,if_neg (by decide),if_neg h6] at e
  clear hf hse
  refine aloop (envCOk _ _ _) (fun k : Nat => ⟨[(1,.v (.eptr [.int .i64 h.ports,.int .i64 h.lost,.slice 5 (h.ships.map shipA),.slice 3 (h.letters.map letA),.slice 4 (h.reports.map repA)])),(8,.v (.int .i64 k))],[],[],m⟩)
   (fun k => k ≤ h.letters.length ∧ failFrom (fun _ => letErr h.ports h.ships) k (h.letters.drop k) = lettersE h) (fun k => h.letters.length - k) 0 (fun _ => rfl) ⟨by omega,by simp [lettersE]⟩ (by (simp only [FE,↓FP,seval]); try simp) ?_
  clear hk hke
  rintro j ⟨hj,hf⟩
  simp(maxSteps:=9^9)only[↓VX,VQ,seval]
  repeat'(first|intro _|apply And.intro)
  all_goals try first|omega|(simp only[LL];omega)|exact nlC (by decide) _|exact nbC rfl
  ·have hlt : j < h.letters.length := by omega
   have e1 : h.letters[j]! = h.letters[j] := getD_any hlt
   rw [List.drop_eq_getElem_cons hlt] at hf
   have hl := hf3 (by omega) (h.letters[j]!)
   simp only [letA] at hl
   have hit : letErr h.ports h.ships h.letters[j] ≠ 0 → lettersE h = ((j : Int),letErr h.ports h.ships h.letters[j]) := fun q => by rw [← hf,failFrom_hit q]
   rw [e1] at hl
   generalize hle : letErr h.ports h.ships h.letters[j] = le at *
   (refine adraw (by first | exact envOk _ | exact envCOk _ _ _) mixed [⟨false,false,0⟩,⟨false,false,0⟩,⟨false,false,0⟩,⟨false,false,0⟩,⟨false,false,0⟩,⟨false,false,0⟩,⟨false,false,0⟩,⟨false,false,0⟩] (by kernel_rfl) ?_; show vcOpsD _ _ _ (_ :: _) _ _)
   simp(maxSteps:=9^9)only[↓VX,VQ,seval]
   repeat'(first|intro _|apply And.intro)
   all_goals try first|omega|(simp only[LL];omega)|exact nlC (by decide) _|exact nbC rfl
   rw [← e1] at hl
   (refine ⟨_,.inl (hl),?_⟩; try simp(maxSteps:=9^9)only[↓VX,VQ,seval])
   repeat'(first|intro _|apply And.intro)
   all_goals try first|omega|(simp only[LL];omega)|exact nlC (by decide) _|exact nbC rfl
   ·have q : le ≠ 0 := by assumption
    have hh := hit q
    rw [hh,if_pos q] at e
    rw [e]
   ·have q : ¬ le ≠ 0 := by omega
    rw [failFrom_skip (by show ¬ letErr h.ports h.ships h.letters[j] ≠ 0; rw [hle]; exact q)] at hf
    refine ⟨j + 1,⟨by omega,hf⟩,by dsimp only; omega,?_⟩
    (simp only [FE,↓FP,seval])
    simp
  ·have hke : j = h.letters.length := by omega
   rw [List.drop_eq_nil_of_le (by omega)] at hf
   have hse : lettersE h = (0,0) := hf.symm
   rw [hse,if_neg (by decide)] at e
   rw [e,if_pos (by omega)]
  have hke : j = h.letters.length := by omega
  rw [List.drop_eq_nil_of_le (by omega)] at hf
  have hse : lettersE h = (0,0) := hf.symm
  have h8 : ¬ 5 < h.reports.length := by omega
  rw [hse,if_neg (by decide),if_neg h8] at e
  clear hf hse
  refine aloop (envCOk _ _ _) (fun k : Nat => ⟨[(1,.v (.eptr [.int .i64 h.ports,.int .i64 h.lost,.slice 5 (h.ships.map shipA),.slice 3 (h.letters.map letA),.slice 4 (h.reports.map repA)])),(10,.v (.int .i64 k))],[],[],m⟩)
   (fun k => k ≤ h.reports.length ∧ failFrom (fun _ => repErr h.ports h.ships.length h.letters.length) k (h.reports.drop k) = reportsE h) (fun k => h.reports.length - k) 0 (fun _ => rfl) ⟨by omega,by simp [reportsE]⟩ (by (simp only [FE,↓FP,seval]); try simp) ?_
  clear hj hke
  rintro j ⟨hj,hf⟩
  simp(maxSteps:=9^9)only[↓VX,VQ,seval]
  repeat'(first|intro _|apply And.intro)
  all_goals try first|omega|(simp only[LL];omega)|exact nlC (by decide) _|exact nbC rfl
  ·have hlt : j < h.reports.length := by omega
   have e1 : h.reports[j]! = h.reports[j] := getD_any hlt
   rw [List.drop_eq_getElem_cons hlt] at hf
   have hl := hf4 (by omega) (by omega) (h.reports[j]!)
   simp only [repA] at hl
   have hit : repErr h.ports h.ships.length h.letters.length h.reports[j] ≠ 0 → reportsE h = ((j : Int),repErr h.ports h.ships.length h.letters.length h.reports[j]) := fun q => by rw [← hf,failFrom_hit q]
   rw [e1] at hl
   generalize hle : repErr h.ports h.ships.length h.letters.length h.reports[j] = le at *
   (refine adraw (by first | exact envOk _ | exact envCOk _ _ _) mixed [⟨false,false,0⟩,⟨false,false,0⟩,⟨false,false,0⟩,⟨false,false,0⟩,⟨false,false,0⟩,⟨false,false,0⟩,⟨false,false,0⟩,⟨false,false,0⟩] (by kernel_rfl) ?_; show vcOpsD _ _ _ (_ :: _) _ _)
   simp(maxSteps:=9^9)only[↓VX,VQ,seval]
   repeat'(first|intro _|apply And.intro)
   all_goals try first|omega|(simp only[LL];omega)|exact nlC (by decide) _|exact nbC rfl
   rw [← e1] at hl
   (refine ⟨_,.inl (hl),?_⟩; try simp(maxSteps:=9^9)only[↓VX,VQ,seval])
   repeat'(first|intro _|apply And.intro)
   all_goals try first|omega|(simp only[LL];omega)|exact nlC (by decide) _|exact nbC rfl
   ·have q : le ≠ 0 := by assumption
    have hh := hit q
    rw [hh,if_pos q] at e
    rw [e]
   ·have q : ¬ le ≠ 0 := by omega
    rw [failFrom_skip (by show ¬ repErr h.ports h.ships.length h.letters.length h.reports[j] ≠ 0; rw [hle]; exact q)] at hf
    refine ⟨j + 1,⟨by omega,hf⟩,by dsimp only; omega,?_⟩
    (simp only [FE,↓FP,seval])
    simp
  ·have hke : j = h.reports.length := by omega
   rw [List.drop_eq_nil_of_le (by omega)] at hf
   have hse : reportsE h = (0,0) := hf.symm
   rw [hse,if_neg (by decide)] at e
   rw [e]
structure SOk (ports : Int) (s : RShip) : Prop where
 sails : 0 ≤ s.sails ∧ s.sails ≤ 20
 late : 0 ≤ s.lo ∧ s.lo ≤ s.hi ∧ s.hi ≤ 3
 n : s.calls.length ≤ 3
 call : ∀ i (_ : i < s.calls.length),(0 ≤ (s.calls[i]!).port ∧ (s.calls[i]!).port ≤ ports - 1) ∧ (1 ≤ (s.calls[i]!).after ∧ (s.calls[i]!).after ≤ 20) ∧ atC s.calls (s.calls[i]!).port = i
structure HOk (h : RHarb) : Prop where
 p : 1 ≤ h.ports ∧ h.ports ≤ 4
 l : 0 ≤ h.lost ∧ h.lost ≤ 3
 n : h.ships.length ≤ 3
 ship : ∀ i (_ : i < h.ships.length),SOk h.ports (h.ships[i]!)
 nl : h.letters.length ≤ 4
 letter : ∀ i (_ : i < h.letters.length),(0 ≤ (h.letters[i]!).port ∧ (h.letters[i]!).port ≤ h.ports - 1) ∧ (0 ≤ (h.letters[i]!).day ∧ (h.letters[i]!).day ≤ 20) ∧ (-1 ≤ (h.letters[i]!).ship ∧ (h.letters[i]!).ship ≤ (h.ships.length : Int) - 1)
 nr : h.reports.length ≤ 5
 report : ∀ i (_ : i < h.reports.length),(0 ≤ (h.reports[i]!).kind ∧ (h.reports[i]!).kind ≤ 3) ∧ (0 ≤ (h.reports[i]!).of_ ∧ (h.reports[i]!).of_ ≤ ((if (h.reports[i]!).kind < 2 then (h.ships.length : Int) else h.letters.length) - 1)) ∧
  (0 ≤ (h.reports[i]!).port ∧ (h.reports[i]!).port ≤ h.ports - 1) ∧ (0 ≤ (h.reports[i]!).day ∧ (h.reports[i]!).day ≤ 60)
theorem checkH_parts {h : RHarb} (e : (checkH h).2.2 = 0) : (offP 1 4 h.ports || offP 0 3 h.lost) = false ∧ h.ships.length ≤ 3 ∧ (shipsE h).2 = 0 ∧ h.letters.length ≤ 4 ∧ (lettersE h).2 = 0 ∧ h.reports.length ≤ 5 ∧ (reportsE h).2 = 0 := by
 unfold checkH at e
 split at e
 ·cases e
 ·rename_i h1
  split at e
  ·cases e
  ·rename_i h2
   split at e
   ·rename_i h3; exact absurd e h3
   ·rename_i h3
    split at e
    ·cases e
    ·rename_i h4
     split at e
     ·rename_i h5; exact absurd e h5
     ·rename_i h5
      split at e
      ·cases e
      ·rename_i h6
       split at e
       ·rename_i h7; exact absurd e h7
       ·rename_i h7
        exact ⟨by simpa using h1,by omega,by simpa using h3,by omega,by simpa using h5,by omega,by simpa using h7⟩
theorem atC_lt {l : List RCall} {i : Nat} (h : i < l.length) : atC l (l[i]!).port ≤ i := by
 unfold atC
 rcases idxL_cases (fun c : RCall => decide (c.port = (l[i]!).port)) l with e | ⟨k,hk,e⟩
 ·rw [e]; omega
 ·rw [e]
  apply Decidable.byContradiction; intro hlt
  have hlt' : i < k := by omega
  have h1 : idxL (fun c : RCall => decide (c.port = (l[i]!).port)) l = i ∨ idxL (fun c : RCall => decide (c.port = (l[i]!).port)) l < i := by
   clear e hlt hlt' hk
   have key : ∀ (l : List RCall) (i : Nat) (p : RCall → Bool) (h : i < l.length),p l[i] = true → idxL p l ≤ i := by
    intro l
    induction l with
    | nil => intro i p h; simp at h
    | cons x l ih =>
     intro i p h hp
     unfold idxL
     by_cases hx : p x = true
     ·rw [if_pos hx]; omega
     ·cases i with
      | zero => simp at hp; exact absurd hp hx
      | succ i =>
       have := ih i p (by simpa using h) (by simpa using hp)
       rw [if_neg hx]
       split
       ·omega
       ·omega
   have := key l i (fun c : RCall => decide (c.port = (l[i]!).port)) h (by rw [← getD_any h]; exact decide_eq_true rfl)
   omega
  omega
theorem sok_fit {ports : Int} {s : RShip} (e : fitE ports s = 0) : SOk ports s := by
 unfold fitE at e
 split at e
 ·cases e
 ·rename_i h1
  split at e
  ·cases e
  ·rename_i h2
   split at e
   ·cases e
   ·rename_i h3
    rw [failFrom_zero] at e
    simp only [Bool.or_eq_true,not_or,Bool.not_eq_true,offP_false] at h1
    refine ⟨h1.1,⟨h1.2.1.1,by omega,h1.2.2.2⟩,by omega,fun i hi => ?_⟩
    have := e i hi
    rw [← getD_any hi,Nat.zero_add] at this
    unfold callErr at this
    split at this
    ·cases this
    ·rename_i q1
     split at this
     ·cases this
     ·rename_i q2
      split at this
      ·cases this
      ·rename_i q3
       rw [Bool.not_eq_true,offP_false] at q1 q3
       have := atC_lt hi
       exact ⟨q1,q3,by omega⟩
theorem hok_check {h : RHarb} (e : (checkH h).2.2 = 0) : HOk h := by
 obtain ⟨h1,h2,h3,h4,h5,h6,h7⟩ := checkH_parts e
 simp only [Bool.or_eq_false_iff,offP_false] at h1
 unfold shipsE at h3
 unfold lettersE at h5
 unfold reportsE at h7
 rw [failFrom_zero] at h3 h5 h7
 refine ⟨h1.1,h1.2,h2,fun i hi => ?_,h4,fun i hi => ?_,h6,fun i hi => ?_⟩
 ·have := h3 i hi
  rw [← getD_any hi,Nat.zero_add] at this
  unfold shipErr at this
  split at this
  ·split at this
   ·cases this
   ·exact sok_fit this
  ·cases this
 ·have := h5 i hi
  rw [← getD_any hi] at this
  unfold letErr at this
  split at this
  ·cases this
  ·rename_i q1
   split at this
   ·cases this
   ·rename_i q2
    split at this
    ·cases this
    ·rename_i q3
     rw [Bool.not_eq_true,offP_false] at q1 q2 q3
     exact ⟨q1,q2,q3⟩
 ·have := h7 i hi
  rw [← getD_any hi] at this
  unfold repErr at this
  generalize (if (h.reports[i]!).kind < 2 then (h.ships.length : Int) else h.letters.length) = cnt at this ⊢
  split at this
  ·cases this
  ·rename_i q1
   split at this
   ·cases this
   ·rename_i q2
    split at this
    ·cases this
    ·split at this
     ·cases this
     ·rename_i q4
      simp only [Bool.or_eq_true,not_or] at q2
      rw [Bool.not_eq_true,offP_false] at q1 q4
      rw [Bool.not_eq_true,Bool.not_eq_true,offP_false,offP_false] at q2
      exact ⟨q1,q2.1,q2.2,q4⟩
def fleetL (f : Nat → Fate) : List AV := [.int .i64 (f 0).late,.int .i64 (f 0).made,.int .i64 (f 1).late,.int .i64 (f 1).made,.int .i64 (f 2).late,.int .i64 (f 2).made]
def fleetA (f : Nat → Fate) : AV := .agg (fleetL f)
theorem fleet_drop (f : Nat → Fate) {s : Nat} (h : s < 3) : ∃ r,(fleetL f).drop (s * 2) = .int .i64 (f s).late :: .int .i64 (f s).made :: r := by
 have : s = 0 ∨ s = 1 ∨ s = 2 := by omega
 rcases this with rfl | rfl | rfl <;> exact ⟨_,rfl⟩
def lookedL (h : RHarb) (but : Int) (b : Nat) : List AV := [.int .i64 h.ports,.int .i64 h.lost,.slice 5 (h.ships.map shipA),.slice 3 (h.letters.map letA),.slice 4 (h.reports.map repA),
 .fn (.func 107) [] [],.fn (.func 108) [] [],.fn (.func 107) [] [],.fn (.func 108) [] [],.int .i64 but,.map b]
def dayN (h : RHarb) (f : Nat → Fate) (s : Nat) (port : Int) : Int :=
 if atC (h.ships[s]!).calls port < 0 ∨ (f s).made ≤ atC (h.ships[s]!).calls port then 61 else (h.ships[s]!).sails + ((h.ships[s]!).calls[(atC (h.ships[s]!).calls port).toNat]!).after + (f s).late
theorem day_c (h : RHarb) (hh : HOk h) (but : Int) (b : Nat) (f : Nat → Fate) (s : Nat) (port : Int) (hs : s < h.ships.length) (hl : 0 ≤ (f s).late ∧ (f s).late ≤ 3) :
  PCall Tryz.prog 42 [.eptr (lookedL h but b),fleetA f,.int .i64 s,.int .i64 port] (.int .i64 (dayN h f s port)) := by
 intro m
 have h3 := hh.n
 have hso := hh.ship s hs
 have h1 := at_c (h.ships[s]!) port
 obtain ⟨r,hdr⟩ := fleet_drop f (s := s) (by omega)
 have hcall := hso.call
 have hsa := hso.sails
 have e : dayN h f s port = if atC (h.ships[s]!).calls port < 0 ∨ (f s).made ≤ atC (h.ships[s]!).calls port then 61 else (h.ships[s]!).sails + ((h.ships[s]!).calls[(atC (h.ships[s]!).calls port).toNat]!).after + (f s).late := rfl
 have hat : atC (h.ships[s]!).calls port = -1 ∨ ∃ k,k < (h.ships[s]!).calls.length ∧ atC (h.ships[s]!).calls port = (k : Int) := idxL_cases _ _
 generalize hA : atC (h.ships[s]!).calls port = A at *
 simp only [lookedL,fleetA,fleetL,shipA,shipL] at *
 (refine acall_intro (E := envC (modeAt [9] []) false []) (envCOk _ _ _) rfl Tryz.func42 rfl Tryz.call42 (by kernel_rfl) (by simp [Tryz.ntmps42]) ?_; simp only [Tryz.f42];  simp(maxSteps:=9^9)only[↓VX,VQ,seval])
 repeat'(first|intro _|apply And.intro)
 all_goals try first|omega|(simp only[LL];omega)|exact nlC (by decide) _|exact nbC rfl
 (refine ACall.pure (h1) ?_; try simp(maxSteps:=9^9)only[↓VX,VQ,seval,GL,↓hdr])
 repeat'(first|intro _|apply And.intro)
 all_goals try first|omega|(simp only[LL];omega)|exact nlC (by decide) _|exact nbC rfl
 ·rw [e,if_pos (.inr (by assumption))]
 ·have q1 : ¬ A < 0 := by assumption
  have q2 : ¬ (f s).made ≤ A := by assumption
  rw [if_neg (by omega)] at e
  obtain ⟨k,hk,hAk⟩ := hat.resolve_left (by omega)
  obtain ⟨c1,c2,_⟩ := hcall k hk
  have hAn : A.toNat = k := by omega
  rw [hAn] at e
  (refine adraw (by first | exact envOk _ | exact envCOk _ _ _) mixed [⟨false,false,0⟩,⟨false,false,0⟩,⟨false,false,0⟩,⟨false,false,0⟩,⟨false,false,0⟩,⟨false,false,0⟩,⟨false,false,0⟩,⟨false,false,0⟩,⟨false,false,0⟩,⟨false,false,0⟩,⟨false,false,0⟩,⟨false,false,0⟩,⟨false,false,0⟩,⟨false,false,0⟩,⟨false,false,0⟩] (by kernel_rfl) ?_; show vcOpsD _ _ _ (_ :: _) _ _)
  simp(maxSteps:=9^9)only[↓VX,VQ,seval,↓hdr,hAn]
  repeat'(first|intro _|apply And.intro)
  all_goals try first|omega|(simp only[LL];omega)|exact nlC (by decide) _|exact nbC rfl
  rw [e]
 ·rw [e,if_pos (.inl (by omega))]
def sinksB (h : RHarb) (f : Nat → Fate) (i : Nat) : Bool := decide ((f i).made < (h.ships[i]!).calls.length)
def lostS (h : RHarb) (f : Nat → Fate) (n : Nat) : Nat := setOf (sinksB h f) n
theorem lost_c (h : RHarb) (hh : HOk h) (but : Int) (b : Nat) (f : Nat → Fate) :
  PCall Tryz.prog 57 [.eptr (lookedL h but b),fleetA f] (.tuple [.int .i64 (lostS h f h.ships.length),.int .i64 ((List.range h.ships.length).filter (sinksB h f)).length]) := by
 intro m
 have h3 := hh.n
 have hdr := fun s (hs : s < h.ships.length) => fleet_drop f (s := s) (by omega)
 have hlt := fun k => setOf_lt (sinksB h f) k
 simp only [lookedL,fleetA,fleetL] at *
 (refine acall_intro (E := envC (modeAt [7] []) false []) (envCOk _ _ _) rfl Tryz.func57 rfl Tryz.call57 (by kernel_rfl) (by simp [Tryz.ntmps57]) ?_; simp only [Tryz.f57];  simp(maxSteps:=9^9)only[↓VX,VQ,seval])
 repeat'(first|intro _|apply And.intro)
 all_goals try first|omega|(simp only[LL];omega)|exact nlC (by decide) _|exact nbC rfl
 refine aloop (envCOk _ _ _) (fun k : Nat => ⟨[(3,.v (.eptr [.int .i64 (f 0).late,.int .i64 (f 0).made,.int .i64 (f 1).late,.int .i64 (f 1).made,.int .i64 (f 2).late,.int .i64 (f 2).made])),(4,.v (.int .i64 (setOf (sinksB h f) k))),(5,.v (.int .i64 ((List.range k).filter (sinksB h f)).length)),(12,.v (.slice 5 (h.ships.map shipA))),(13,.v (.int .i64 h.ships.length)),(14,.v (.int .i64 k))],[],[],m⟩)
  (fun k => k ≤ h.ships.length) (fun k => h.ships.length - k) 0 (fun _ => rfl) (by simp) (by (simp only [FE,↓FP,seval]); try simp [setOf]) ?_
 intro k hk
 have hk8 := hlt k
 have hp : 2 ^ k ≤ 2 ^ 3 := Nat.pow_le_pow_right (by decide) (by omega)
 have hcnt : ((List.range k).filter (sinksB h f)).length ≤ k := Nat.le_trans (List.length_filter_le _ _) (by simp)
 have hsucc : (List.range (k + 1)).filter (sinksB h f) = (List.range k).filter (sinksB h f) ++ if sinksB h f k = true then [k] else [] := by
  rw [List.range_succ,List.filter_append]
  by_cases q : sinksB h f k = true <;> simp [q]
 have hsb : sinksB h f k = decide ((f k).made < (h.ships[k]!).calls.length) := rfl
 simp(maxSteps:=9^9)only[↓VX,VQ,seval]
 repeat'(first|intro _|apply And.intro)
 all_goals try first|omega|(simp only[LL];omega)|exact nlC (by decide) _|exact nbC rfl
 ·obtain ⟨r,hd⟩ := hdr k (by omega)
  (refine adraw (by first | exact envOk _ | exact envCOk _ _ _) mixed [⟨false,false,0⟩,⟨false,false,0⟩,⟨false,false,0⟩,⟨false,false,0⟩,⟨false,false,0⟩,⟨false,false,0⟩,⟨false,false,0⟩,⟨false,false,0⟩] (by kernel_rfl) ?_; show vcOpsD _ _ _ (_ :: _) _ _)
  simp(maxSteps:=9^9)only[↓VX,VQ,seval,↓hd]
  repeat'(first|intro _|apply And.intro)
  all_goals try first|omega|(simp only[LL];omega)|exact nlC (by decide) _|exact nbC rfl
  ·have q : sinksB h f k = true := by rw [hsb]; exact decide_eq_true (by assumption)
   rw [if_pos q] at hsucc
   refine ⟨k + 1,by dsimp only; omega,by dsimp only; omega,?_⟩
   (simp only [FE,↓FP,seval])
   rw [hsucc]
   simp [setOf,q]
  ·have q : ¬ sinksB h f k = true := by rw [hsb,decide_eq_true_eq]; assumption
   rw [if_neg q] at hsucc
   refine ⟨k + 1,by dsimp only; omega,by dsimp only; omega,?_⟩
   (simp only [FE,↓FP,seval])
   rw [hsucc]
   simp [setOf,q]
 ·rw [show k = h.ships.length by omega]; rfl
def fateA (x : Fate) : AV := .agg [.int .i64 x.late,.int .i64 x.made]
def fatesA (l : List Fate) : AV := .slice 2 (l.map fateA)
theorem ixFate (l : List Fate) (i : Int) (K : AV → Prop) : VIdx (l.map fateA) i K ↔ (0 ≤ i ∧ i.toNat < l.length) ∧ K (.agg [.int .i64 (l[i.toNat]!).late,.int .i64 (l[i.toNat]!).made]) := VIdx_map fateA l i K
def dayR (h : RHarb) (l : List Fate) (s : Nat) (port : Int) : Int :=
 if atC (h.ships[s]!).calls port < 0 ∨ (l[s]!).made ≤ atC (h.ships[s]!).calls port then -1 else (h.ships[s]!).sails + ((h.ships[s]!).calls[(atC (h.ships[s]!).calls port).toNat]!).after + (l[s]!).late
theorem refday_c (h : RHarb) (hh : HOk h) (l : List Fate) (s : Nat) (port : Int) (hs : s < h.ships.length) (hl : s < l.length) (hb : 0 ≤ (l[s]!).late ∧ (l[s]!).late ≤ 3) :
  PCall Tryz.prog 88 [harbA h,fatesA l,.int .i64 s,.int .i64 port] (.int .i64 (dayR h l s port)) := by
 intro m
 have hso := hh.ship s hs
 have h1 := refat_c (h.ships[s]!) port
 have hcall := hso.call
 have hsa := hso.sails
 have e : dayR h l s port = if atC (h.ships[s]!).calls port < 0 ∨ (l[s]!).made ≤ atC (h.ships[s]!).calls port then -1 else (h.ships[s]!).sails + ((h.ships[s]!).calls[(atC (h.ships[s]!).calls port).toNat]!).after + (l[s]!).late := rfl
 have hat : atC (h.ships[s]!).calls port = -1 ∨ ∃ k,k < (h.ships[s]!).calls.length ∧ atC (h.ships[s]!).calls port = (k : Int) := idxL_cases _ _
 generalize hA : atC (h.ships[s]!).calls port = A at *
 simp only [harbA,harbL,fatesA,shipA,shipL] at *
 (refine acall_intro (E := envC (modeAt [9] []) false []) (envCOk _ _ _) rfl Tryz.func88 rfl Tryz.call88 (by kernel_rfl) (by simp [Tryz.ntmps88]) ?_; simp only [Tryz.f88];  simp(maxSteps:=9^9)only[↓VX,VQ,seval])
 repeat'(first|intro _|apply And.intro)
 all_goals try first|omega|(simp only[LL];omega)|exact nlC (by decide) _|exact nbC rfl
 (refine ACall.pure (h1) ?_; try simp(maxSteps:=9^9)only[↓VX,VQ,seval,GL,↓ixFate])
 repeat'(first|intro _|apply And.intro)
 all_goals try first|omega|(simp only[LL];omega)|exact nlC (by decide) _|exact nbC rfl
 ·rw [e,if_pos (.inr (by assumption))]
 ·have q1 : ¬ A < 0 := by assumption
  have q2 : ¬ (l[s]!).made ≤ A := by assumption
  rw [if_neg (by omega)] at e
  obtain ⟨k,hk,hAk⟩ := hat.resolve_left (by omega)
  obtain ⟨c1,c2,_⟩ := hcall k hk
  have hAn : A.toNat = k := by omega
  rw [hAn] at e
  (refine adraw (by first | exact envOk _ | exact envCOk _ _ _) mixed [⟨false,false,0⟩,⟨false,false,0⟩,⟨false,false,0⟩,⟨false,false,0⟩,⟨false,false,0⟩,⟨false,false,0⟩,⟨false,false,0⟩,⟨false,false,0⟩,⟨false,false,0⟩,⟨false,false,0⟩,⟨false,false,0⟩,⟨false,false,0⟩,⟨false,false,0⟩,⟨false,false,0⟩,⟨false,false,0⟩,⟨false,false,0⟩] (by kernel_rfl) ?_; show vcOpsD _ _ _ (_ :: _) _ _)
  simp(maxSteps:=9^9)only[↓VX,VQ,seval,↓ixFate,hAn]
  repeat'(first|intro _|apply And.intro)
  all_goals try first|omega|(simp only[LL];omega)|exact nlC (by decide) _|exact nbC rfl
  rw [e]
 ·rw [e,if_pos (.inl (by omega))]
def lostL (h : RHarb) (l : List Fate) (n : Nat) : List Int := ((List.range n).filter fun i => decide ((l[i]!).made < (h.ships[i]!).calls.length)).map fun (i : Nat) => (i : Int)
theorem lostL_succ (h : RHarb) (l : List Fate) (k : Nat) : lostL h l (k + 1) = if (l[k]!).made < (h.ships[k]!).calls.length then lostL h l k ++ [(k : Int)] else lostL h l k := by
 unfold lostL
 rw [List.range_succ,List.filter_append,List.map_append]
 by_cases q : (l[k]!).made < (h.ships[k]!).calls.length
 ·rw [if_pos q]; simp [q,-List.getElem!_eq_getElem?_getD]
 ·rw [if_neg q]; simp [q,-List.getElem!_eq_getElem?_getD]
theorem lostL_length (h : RHarb) (l : List Fate) (k : Nat) : (lostL h l k).length ≤ k := by
 unfold lostL
 rw [List.length_map]
 exact Nat.le_trans (List.length_filter_le _ _) (by simp)
theorem reflost_c (h : RHarb) (l : List Fate) (hl : l.length ≤ h.ships.length) (h3 : h.ships.length ≤ 3) : PCall Tryz.prog 87 [harbA h,fatesA l] (ints (lostL h l l.length)) := by
 intro m
 simp only [harbA,harbL,fatesA,ints]
 (refine acall_intro (E := env fun _ => .imm) (envOk _) rfl Tryz.func87 rfl Tryz.call87 (by kernel_rfl) (by simp [Tryz.ntmps87]) ?_; simp only [Tryz.f87];  simp(maxSteps:=9^9)only[↓VX,VQ,seval])
 refine aloop (envOk _) (fun k : Nat => ⟨[(1,.v (.slice 2 (l.map fateA))),(2,.v (.eptr [.int .i64 h.ports,.int .i64 h.lost,.slice 5 (h.ships.map shipA),.slice 3 (h.letters.map letA),.slice 4 (h.reports.map repA)])),(5,.v (.slice 1 ((lostL h l k).map (AV.int .i64)))),(6,.v (.int .i64 k))],[5],[],m⟩)
  (fun k => k ≤ l.length) (fun k => l.length - k) 0 (fun _ => rfl) (by simp) (by (simp only [FE,↓FP,seval]); try simp [lostL]) ?_
 intro k hk
 have hlen := lostL_length h l k
 have hsu := lostL_succ h l k
 simp(maxSteps:=9^9)only[↓VX,VQ,seval]
 repeat'(first|intro _|apply And.intro)
 all_goals try first|omega|(simp only[LL];omega)|exact nlC (by decide) _|exact nbC rfl
 ·(refine adraw (by first | exact envOk _ | exact envCOk _ _ _) mixed [⟨false,false,0⟩,⟨false,false,0⟩,⟨false,false,0⟩,⟨false,false,0⟩,⟨false,false,0⟩,⟨false,false,0⟩,⟨false,false,0⟩,⟨false,false,0⟩,⟨false,false,0⟩,⟨false,false,0⟩,⟨false,false,0⟩,⟨false,false,0⟩,⟨false,false,0⟩] (by kernel_rfl) ?_; show vcOpsD _ _ _ (_ :: _) _ _)
  simp(maxSteps:=9^9)only[↓VX,VQ,seval,↓ixFate]
  repeat'(first|intro _|apply And.intro)
  all_goals try first|omega|(simp only[LL];omega)|exact nlC (by decide) _|exact nbC rfl
  ·have q : (l[k]!).made < (h.ships[k]!).calls.length := by assumption
   rw [if_pos q] at hsu
   (refine ⟨k + 1,by first | omega | (dsimp only; omega),by dsimp only; omega,?_⟩; (simp only [FE,↓FP,seval]); try simp [hsu])
  ·have q : ¬ (l[k]!).made < (h.ships[k]!).calls.length := by assumption
   rw [if_neg q] at hsu
   (refine ⟨k + 1,by first | omega | (dsimp only; omega),by dsimp only; omega,?_⟩; (simp only [FE,↓FP,seval]); try simp [hsu])
 ·rw [show k = l.length by omega]
def untilB (a d : Int) : Bool := decide (0 ≤ a) && decide (a ≤ d)
theorem until_c (a d : Int) : PCall Tryz.prog 89 [.int .i64 a,.int .i64 d] (.bool (untilB a d)) := by
 intro m
 have e : untilB a d = (decide (0 ≤ a) && decide (a ≤ d)) := rfl
 (refine acall_intro (E := env fun _ => .imm) (envOk _) rfl Tryz.func89 rfl Tryz.call89 (by kernel_rfl) (by simp [Tryz.ntmps89]) ?_; simp only [Tryz.f89];  simp(maxSteps:=9^9)only[↓VX,VQ,seval])
 repeat'(first|intro _|apply And.intro)
 ·rw [e]; congr 1; simp [*]
 ·rw [e]; congr 1; simp [*]
def soB (r : RRep) (d : Int) : Bool := if r.kind = 0 ∨ r.kind = 2 then decide (d = r.day) else !untilB d r.day
theorem said_c (h : RHarb) (hh : HOk h) (l : List Fate) (r : RRep) (hk : r.kind < 2) (hs : 0 ≤ r.of_ ∧ r.of_.toNat < h.ships.length) (hl : r.of_.toNat < l.length) (hb : 0 ≤ (l[r.of_.toNat]!).late ∧ (l[r.of_.toNat]!).late ≤ 3) :
  PCall Tryz.prog 49 [harbA h,fatesA l,repA r] (.bool (soB r (dayR h l r.of_.toNat r.port))) := by
 intro m
 have h1 := refday_c h hh l r.of_.toNat r.port hs.2 hl hb
 have h2 := until_c (dayR h l r.of_.toNat r.port) r.day
 rw [Int.toNat_of_nonneg hs.1] at h1
 have e : soB r (dayR h l r.of_.toNat r.port) = if r.kind = 0 ∨ r.kind = 2 then decide (dayR h l r.of_.toNat r.port = r.day) else !untilB (dayR h l r.of_.toNat r.port) r.day := rfl
 generalize dayR h l r.of_.toNat r.port = D at *
 simp only [harbA,harbL,fatesA,repA] at *
 (refine acall_intro (E := env fun _ => .imm) (envOk _) rfl Tryz.func49 rfl Tryz.call49 (by kernel_rfl) (by simp [Tryz.ntmps49]) ?_; simp only [Tryz.f49];  simp(maxSteps:=9^9)only[↓VX,VQ,seval])
 ((refine ACall.pure (h1) ?_; try simp(maxSteps:=9^9)only[↓VX,VQ,seval]); try simp(maxSteps:=9^9)only[↓VX,VQ,seval,GL])
 repeat'(first|intro _|apply And.intro)
 ·rw [e,if_pos (.inl (by assumption))]
 ·((refine ACall.pure (h2) ?_; try simp(maxSteps:=9^9)only[↓VX,VQ,seval]); try simp(maxSteps:=9^9)only[↓VX,VQ,seval,GL])
  rw [e,if_neg (by omega)]
theorem heard_c (h : RHarb) (hh : HOk h) (l : List Fate) (r : RRep) (s : Nat) (hk : 2 ≤ r.kind) (hk3 : r.kind ≤ 3) (hr : 0 ≤ r.of_ ∧ r.of_.toNat < h.letters.length) (hs : s < h.ships.length) (hl : s < l.length) (hb : 0 ≤ (l[s]!).late ∧ (l[s]!).late ≤ 3) :
  PCall Tryz.prog 90 [harbA h,fatesA l,repA r,.int .i64 s] (.bool (soB r (dayR h l s (h.letters[r.of_.toNat]!).port))) := by
 intro m
 have h1 := refday_c h hh l s (h.letters[r.of_.toNat]!).port hs hl hb
 have h2 := until_c (dayR h l s (h.letters[r.of_.toNat]!).port) r.day
 have e : soB r (dayR h l s (h.letters[r.of_.toNat]!).port) = if r.kind = 0 ∨ r.kind = 2 then decide (dayR h l s (h.letters[r.of_.toNat]!).port = r.day) else !untilB (dayR h l s (h.letters[r.of_.toNat]!).port) r.day := rfl
 generalize dayR h l s (h.letters[r.of_.toNat]!).port = D at *
 simp only [harbA,harbL,fatesA,repA] at *
 (refine acall_intro (E := env fun _ => .imm) (envOk _) rfl Tryz.func90 rfl Tryz.call90 (by kernel_rfl) (by simp [Tryz.ntmps90]) ?_; simp only [Tryz.f90];  simp(maxSteps:=9^9)only[↓VX,VQ,seval])
 (refine adraw (by first | exact envOk _ | exact envCOk _ _ _) mixed [⟨false,false,0⟩,⟨false,false,0⟩,⟨false,false,0⟩,⟨false,false,0⟩,⟨false,false,0⟩,⟨false,false,0⟩,⟨false,false,0⟩,⟨false,false,0⟩,⟨false,false,0⟩,⟨false,false,0⟩,⟨false,false,0⟩,⟨false,false,0⟩] (by kernel_rfl) ?_; show vcOpsD _ _ _ (_ :: _) _ _)
 simp(maxSteps:=9^9)only[↓VX,VQ,seval]
 repeat'(first|intro _|apply And.intro)
 all_goals try first|omega|(simp only[LL];omega)|exact nlC (by decide) _|exact nbC rfl
 (refine ⟨_,.inl (h1),?_⟩; try simp(maxSteps:=9^9)only[↓VX,VQ,seval])
 repeat'(first|intro _|apply And.intro)
 ·rw [e,if_pos (.inr (by assumption))]
 ·((refine ACall.pure (h2) ?_; try simp(maxSteps:=9^9)only[↓VX,VQ,seval]); try simp(maxSteps:=9^9)only[↓VX,VQ,seval,GL])
  rw [e,if_neg (by omega)]
def ofB (h : RHarb) (k : Nat) (but : List Int) (i : Nat) : Bool := decide (2 ≤ (h.reports[i]!).kind) && (decide ((h.reports[i]!).of_ = (k : Int)) && decide ((i : Int) ∉ but))
def repsB (h : RHarb) (l : List Fate) (k : Nat) (but : List Int) (s n : Nat) : Bool := (List.range n).all fun i => !ofB h k but i || soB (h.reports[i]!) (dayR h l s (h.letters[k]!).port)
def shipB (h : RHarb) (k s : Nat) : Bool := takesB (h.ships[s]!) (h.letters[k]!).port (h.letters[k]!).day && (decide ((h.letters[k]!).ship = -1) || decide ((h.letters[k]!).ship = (s : Int)))
def canB (h : RHarb) (l : List Fate) (k : Nat) (but : List Int) (s : Nat) : Bool := shipB h k s && repsB h l k but s h.reports.length
def couldL (h : RHarb) (l : List Fate) (k : Nat) (but : List Int) (n : Nat) : List Int := ((List.range n).filter (canB h l k but)).map fun (i : Nat) => (i : Int)
theorem couldL_succ (h : RHarb) (l : List Fate) (k : Nat) (but : List Int) (n : Nat) : couldL h l k but (n + 1) = if canB h l k but n = true then couldL h l k but n ++ [(n : Int)] else couldL h l k but n := by
 unfold couldL
 rw [List.range_succ,List.filter_append,List.map_append]
 by_cases q : canB h l k but n = true
 ·rw [if_pos q]; simp [q]
 ·rw [if_neg q]; simp [q]
theorem couldL_length (h : RHarb) (l : List Fate) (k : Nat) (but : List Int) (n : Nat) : (couldL h l k but n).length ≤ n := by
 unfold couldL
 rw [List.length_map]
 exact Nat.le_trans (List.length_filter_le _ _) (by simp)
theorem repsB_succ (h : RHarb) (l : List Fate) (k : Nat) (but : List Int) (s n : Nat) : repsB h l k but s (n + 1) = (repsB h l k but s n && (!ofB h k but n || soB (h.reports[n]!) (dayR h l s (h.letters[k]!).port))) := by
 unfold repsB; rw [List.range_succ,List.all_append]; simp
structure FOk (h : RHarb) (l : List Fate) : Prop where
 n : l.length = h.ships.length
 late : ∀ s,s < l.length → 0 ≤ (l[s]!).late ∧ (l[s]!).late ≤ 3
 made : ∀ s,s < l.length → 0 ≤ (l[s]!).made ∧ (l[s]!).made ≤ ((h.ships[s]!).calls.length : Int)
theorem could_c (h : RHarb) (hh : HOk h) (l : List Fate) (hl : FOk h l) (k : Nat) (hk : k < h.letters.length) (but : List Int) :
  PCall Tryz.prog 50 [harbA h,fatesA l,.int .i64 k,ints but] (ints (couldL h l k but h.ships.length)) := by
 intro m
 have h3 := hh.n
 have hll := hl.n
 have hnr := hh.nr
 have ht := fun (s : Nat) => reftakes_c (h.ships[s]!) (h.letters[k]!).port (h.letters[k]!).day
 have hhas := fun (i : Nat) => has_c but (i : Int)
 have hrp := hh.report
 have hhe := fun (r : RRep) (s : Nat) (q1 : 2 ≤ r.kind) (q2 : r.kind ≤ 3) (q3 : r.of_ = (k : Int)) (q4 : s < h.ships.length) => by
  have := heard_c h hh l r s q1 q2 ⟨by omega,by omega⟩ q4 (by omega) (hl.late s (by omega))
  rw [show r.of_.toNat = k by omega] at this
  exact this
 simp only [harbA,harbL,fatesA,ints,shipA,shipL,repA] at *
 (refine acall_intro (E := envC (modeAt [9,14] []) false []) (envCOk _ _ _) rfl Tryz.func50 rfl Tryz.call50 (by kernel_rfl) (by simp [Tryz.ntmps50]) ?_; simp only [Tryz.f50];  simp(maxSteps:=9^9)only[↓VX,VQ,seval])
 repeat'(first|intro _|apply And.intro)
 all_goals try first|omega|(simp only[LL];omega)|exact nlC (by decide) _|exact nbC rfl
 refine aloop (envCOk _ _ _) (fun s : Nat => ⟨[(1,.v (.slice 2 (l.map fateA))),(2,.v (.int .i64 k)),(3,.v (.slice 1 (but.map (AV.int .i64)))),(4,.v (.eptr [.int .i64 h.ports,.int .i64 h.lost,.slice 5 (h.ships.map shipA),.slice 3 (h.letters.map letA),.slice 4 (h.reports.map repA)])),(9,.loc 9 0),
   (10,.v (.slice 1 ((couldL h l k but s).map (AV.int .i64)))),(11,.v (.int .i64 s))],[10],[(9,[.int .i64 (h.letters[k]!).port,.int .i64 (h.letters[k]!).day,.int .i64 (h.letters[k]!).ship])],m⟩)
  (fun s => s ≤ h.ships.length) (fun s => h.ships.length - s) 0 (fun _ => rfl) (by simp) (by (simp only [FE,↓FP,seval]); try simp [couldL,overlay]) ?_
 intro s hs
 have hsu := couldL_succ h l k but s
 have hlen := couldL_length h l k but s
 have hshb : shipB h k s = (takesB (h.ships[s]!) (h.letters[k]!).port (h.letters[k]!).day && (decide ((h.letters[k]!).ship = -1) || decide ((h.letters[k]!).ship = (s : Int)))) := rfl
 simp(maxSteps:=9^9)only[↓VX,VQ,seval]
 repeat'(first|intro _|apply And.intro)
 all_goals try first|omega|(simp only[LL];omega)|exact nlC (by decide) _|exact nbC rfl
 ·have hslt : s < h.ships.length := by omega
  have hcan : canB h l k but s = (shipB h k s && repsB h l k but s h.reports.length) := rfl
  have ht' := ht s
  generalize hT : takesB (h.ships[s]!) (h.letters[k]!).port (h.letters[k]!).day = T at *
  generalize hB : shipB h k s = B at *
  (refine adraw (by first | exact envOk _ | exact envCOk _ _ _) mixed [⟨false,false,0⟩,⟨false,false,0⟩,⟨false,false,0⟩,⟨false,false,0⟩,⟨false,false,0⟩,⟨false,false,0⟩,⟨false,false,0⟩,⟨false,false,0⟩,⟨false,false,0⟩,⟨false,false,0⟩,⟨false,false,0⟩,⟨false,false,0⟩,⟨false,false,0⟩,⟨false,false,0⟩,⟨false,false,0⟩,⟨false,false,0⟩,⟨false,false,0⟩,⟨false,false,0⟩,⟨false,false,0⟩,⟨false,false,0⟩,⟨false,false,0⟩,⟨false,false,0⟩] (by kernel_rfl) ?_; show vcOpsD _ _ _ (_ :: _) _ _)
  simp(maxSteps:=9^9)only[↓VX,VQ,seval]
  repeat'(first|intro _|apply And.intro)
  all_goals try first|omega|(simp only[LL];omega)|exact nlC (by decide) _|exact nbC rfl
  refine VPure.of ht' ?_
  simp(maxSteps:=9^9)only[↓VX,VQ,seval]
  repeat'(first|intro _|apply And.intro)
  all_goals try first|omega|(simp only[LL];omega)|exact nlC (by decide) _|exact nbC rfl
  all_goals
   refine aloop (envCOk _ _ _) (fun i : Nat => ⟨[(1,.v (.slice 2 (l.map fateA))),(2,.v (.int .i64 k)),(3,.v (.slice 1 (but.map (AV.int .i64)))),(4,.v (.eptr [.int .i64 h.ports,.int .i64 h.lost,.slice 5 (h.ships.map shipA),.slice 3 (h.letters.map letA),.slice 4 (h.reports.map repA)])),(9,.loc 9 0),
     (10,.v (.slice 1 ((couldL h l k but s).map (AV.int .i64)))),(11,.v (.int .i64 s)),(12,.v (.bool (B && repsB h l k but s i))),(13,.v (.int .i64 i))],[10],[(9,[.int .i64 (h.letters[k]!).port,.int .i64 (h.letters[k]!).day,.int .i64 (h.letters[k]!).ship])],m⟩)
    (fun i => i ≤ h.reports.length) (fun i => h.reports.length - i) 0 (fun _ => rfl) (by simp) (by
     (simp only [FE,↓FP,seval])
     rw [hshb]
     first
      | (rw [show T = true by assumption,decide_eq_false (show ¬ (h.letters[k]!).ship = -1 by assumption)]; simp [repsB]; done)
      | (rw [show T = true by assumption,decide_eq_true (show (h.letters[k]!).ship = -1 by omega)]; simp [repsB]; done)
      | (rw [show T = false by (first | assumption | (rw [← Bool.not_eq_false]; assumption) | (rw [← Bool.not_eq_true]; assumption) | omega)]; simp [repsB]; done)) ?_
   intro i hi
   have hrs := repsB_succ h l k but s i
   have hofb : ofB h k but i = (decide (2 ≤ (h.reports[i]!).kind) && (decide ((h.reports[i]!).of_ = (k : Int)) && decide ((i : Int) ∉ but))) := rfl
   have hhas' := hhas i
   have hrp' := fun (q : i < h.reports.length) => hrp i q
   have hhe' := hhe (h.reports[i]!) s
   generalize hR : repsB h l k but s i = R at *
   generalize hD : soB (h.reports[i]!) (dayR h l s (h.letters[k]!).port) = D at *
   simp(maxSteps:=9^9)only[↓VX,VQ,seval]
   repeat'(first|intro _|apply And.intro)
   all_goals try first|omega|(simp only[LL];omega)|exact nlC (by decide) _|exact nbC rfl
   ·have q1 : 2 ≤ (h.reports[i]!).kind := by assumption
    have q2 : (h.reports[i]!).of_ = (k : Int) := by assumption
    have hilt : i < h.reports.length := by omega
    have q3 := (hrp' hilt).1.2
    have hhe2 := hhe' q1 q3 q2 hslt
    rw [decide_eq_true q1,decide_eq_true q2,Bool.true_and,Bool.true_and] at hofb
    ((refine ACall.pure (hhas') ?_; try simp(maxSteps:=9^9)only[↓VX,VQ,seval]); try simp(maxSteps:=9^9)only[↓VX,VQ,seval,GL])
    repeat'(first|intro _|apply And.intro)
    all_goals try first|omega|(simp only[LL];omega)|exact nlC (by decide) _|exact nbC rfl
    ·have q4 : ¬ (i : Int) ∈ but := by assumption
     have q5 : (B && R) = true := by assumption
     rw [hofb,decide_eq_true q4] at hrs
     ((refine ACall.pure (hhe2) ?_; try simp(maxSteps:=9^9)only[↓VX,VQ,seval]); try simp(maxSteps:=9^9)only[↓VX,VQ,seval,GL])
     repeat'(first|intro _|apply And.intro)
     all_goals try first|omega|(simp only[LL];omega)|exact nlC (by decide) _|exact nbC rfl
     refine ⟨i + 1,by dsimp only; omega,by dsimp only; omega,?_⟩
     (simp only [FE,↓FP,seval])
     rw [hrs,← Bool.and_assoc,q5]
     simp
    ·have q4 : ¬ (i : Int) ∈ but := by assumption
     have q5 : (B && R) = false := by rw [← Bool.not_eq_true]; assumption
     rw [hofb,decide_eq_true q4] at hrs
     refine ⟨i + 1,by dsimp only; omega,by dsimp only; omega,?_⟩
     (simp only [FE,↓FP,seval])
     rw [hrs,← Bool.and_assoc,q5]
     simp
    ·have q4 : (i : Int) ∈ but := by apply Decidable.byContradiction; assumption
     rw [hofb,decide_eq_false (fun h => h q4)] at hrs
     refine ⟨i + 1,by dsimp only; omega,by dsimp only; omega,?_⟩
     (simp only [FE,↓FP,seval])
     rw [hrs]
     simp
   ·have q2 : ¬ (h.reports[i]!).of_ = (k : Int) := by assumption
    rw [decide_eq_false q2,Bool.false_and,Bool.and_false] at hofb
    rw [hofb] at hrs
    refine ⟨i + 1,by dsimp only; omega,by dsimp only; omega,?_⟩
    (simp only [FE,↓FP,seval])
    rw [hrs]
    simp
   ·have q2 : ¬ 2 ≤ (h.reports[i]!).kind := by assumption
    rw [decide_eq_false q2,Bool.false_and] at hofb
    rw [hofb] at hrs
    refine ⟨i + 1,by dsimp only; omega,by dsimp only; omega,?_⟩
    (simp only [FE,↓FP,seval])
    rw [hrs]
    simp
   ·have e : i = h.reports.length := by omega
    have q5 : (B && R) = true := by assumption
    rw [← e,hR,q5] at hcan
    rw [if_pos hcan] at hsu
    refine ⟨s + 1,by dsimp only; omega,by dsimp only; omega,?_⟩
    (simp only [FE,↓FP,seval])
    rw [hsu]
    simp
   ·have e : i = h.reports.length := by omega
    have q5 : (B && R) = false := by rw [← Bool.not_eq_true]; assumption
    rw [← e,hR,q5] at hcan
    rw [if_neg (by rw [hcan]; decide)] at hsu
    refine ⟨s + 1,by dsimp only; omega,by dsimp only; omega,?_⟩
    (simp only [FE,↓FP,seval])
    rw [hsu]
    simp
 ·rw [show s = h.ships.length by omega]
def fleetsA (l : List (List Fate)) : AV := .slice 1 (l.map fatesA)
theorem ixFates (l : List (List Fate)) (i : Int) (K : AV → Prop) : VIdx (l.map fatesA) i K ↔ (0 ≤ i ∧ i.toNat < l.length) ∧ K (.slice 2 ((l[i.toNat]!).map fateA)) := VIdx_map fatesA l i K
def indexE (c n b : Int) : Int := if c = 0 then (if offP 0 (b - 1) n = true then 4 else 0) else c
def dayE (d e : Int) : Int := if e = 0 then (if offP 0 60 d = true then 7 else 0) else e
/-! ### Fleet -/
def latesTo (s : RShip) (n : Nat) : List Int := (List.range n).map fun (i : Nat) => s.lo + i
def madesTo (n : Nat) : List Int := (List.range n).map fun (i : Nat) => (i : Int)
def rowR (f : List Fate) (late : Int) (ms : List Int) : List (List Fate) := ms.map fun made => f ++ [Fate.mk late made]
def blockR (f : List Fate) (s : RShip) (ls : List Int) : List (List Fate) := ls.flatMap fun late => rowR f late (madeL s)
def stepTo (out : List (List Fate)) (s : RShip) (k : Nat) : List (List Fate) := (out.take k).flatMap fun f => blockR f s (lateL s)
theorem stepTo_all (out : List (List Fate)) (s : RShip) : stepTo out s out.length = stepR out s := by
 unfold stepTo stepR; rw [List.take_length]; rfl
theorem allR_succ {l : List RShip} {k : Nat} (h : k < l.length) : allR (l.take (k + 1)) = stepR (allR (l.take k)) l[k]! := by
 unfold allR
 rw [List.take_succ_eq_append_getElem h,List.foldl_append,getD_any h]; rfl
theorem stepTo_succ {out : List (List Fate)} {s : RShip} {k : Nat} (h : k < out.length) : stepTo out s (k + 1) = stepTo out s k ++ blockR out[k]! s (lateL s) := by
 unfold stepTo
 rw [List.take_succ_eq_append_getElem h,List.flatMap_append,getD_any h]; simp
theorem fok_len : ∀ {l : List RShip} {f : List Fate},fokB l f = true → f.length = l.length
 | [],[],_ => rfl
 | [],_ :: _,h => by simp [fokB] at h
 | _ :: _,[],h => by simp [fokB] at h
 | _ :: r,_ :: f,h => by
  simp only [fokB,Bool.and_eq_true] at h
  simp [fok_len h.2]
theorem blockR_length (f : List Fate) (s : RShip) : ∀ ls : List Int,(blockR f s ls).length = ls.length * (s.calls.length + 1)
 | [] => by simp [blockR]
 | x :: ls => by
  have := blockR_length f s ls
  unfold blockR at this ⊢
  rw [List.flatMap_cons,List.length_append,this,List.length_cons,Nat.add_mul]
  simp [rowR,madeL]; omega
theorem allR_length {ports : Int} : ∀ (l : List RShip),(∀ i,i < l.length → SOk ports (l[i]!)) → l.length ≤ 3 → (allR l).length ≤ 16 ^ l.length := by
 have key : ∀ (l : List RShip) (out : List (List Fate)),(∀ s ∈ l,SOk ports s) → (l.foldl stepR out).length ≤ out.length * 16 ^ l.length := by
  intro l
  induction l with
  | nil => intro out _; simp
  | cons s l ih =>
   intro out h
   have h1 := ih (stepR out s) (fun x hx => h x (by simp [hx]))
   have hso := h s (by simp)
   have h2 : (stepR out s).length ≤ out.length * 16 := by
    have : ∀ (o : List (List Fate)),(o.flatMap fun f => blockR f s (lateL s)).length ≤ o.length * 16 := by
     intro o
     induction o with
     | nil => simp
     | cons f o iho =>
      rw [List.flatMap_cons,List.length_append,blockR_length,List.length_cons]
      have ha : (lateL s).length ≤ 4 := by
       have := hso.late
       simp [lateL]; omega
      have hb := hso.n
      have hm := Nat.mul_le_mul ha (show s.calls.length + 1 ≤ 4 by omega)
      omega
    exact this out
   rw [List.foldl_cons,List.length_cons,Nat.pow_succ]
   have h3 := Nat.mul_le_mul_right (16 ^ l.length) h2
   calc (l.foldl stepR (stepR out s)).length ≤ (stepR out s).length * 16 ^ l.length := h1
    _ ≤ out.length * 16 * 16 ^ l.length := h3
    _ = out.length * (16 ^ l.length * 16) := by rw [Nat.mul_assoc,Nat.mul_comm 16]
 intro l h _
 have := key l [[]] (fun s hs => by
  obtain ⟨i,hi,rfl⟩ := List.mem_iff_getElem.1 hs
  rw [← getD_any hi]; exact h i hi)
 simpa [allR] using this
theorem latesTo_succ (s : RShip) (n : Nat) : latesTo s (n + 1) = latesTo s n ++ [s.lo + n] := by unfold latesTo; rw [List.range_succ]; simp
theorem madesTo_succ (n : Nat) : madesTo (n + 1) = madesTo n ++ [(n : Int)] := by unfold madesTo; rw [List.range_succ]; simp
theorem blockR_succ (f : List Fate) (s : RShip) (n : Nat) : blockR f s (latesTo s (n + 1)) = blockR f s (latesTo s n) ++ rowR f (s.lo + n) (madeL s) := by
 unfold blockR; rw [latesTo_succ,List.flatMap_append]; simp
theorem rowR_succ (f : List Fate) (late : Int) (n : Nat) : rowR f late (madesTo (n + 1)) = rowR f late (madesTo n) ++ [f ++ [Fate.mk late n]] := by
 unfold rowR; rw [madesTo_succ,List.map_append]; rfl
theorem rowR_length (f : List Fate) (late : Int) (n : Nat) : (rowR f late (madesTo n)).length = n := by simp [rowR,madesTo]
theorem blockTo_length (f : List Fate) (s : RShip) (n : Nat) : (blockR f s (latesTo s n)).length = n * (s.calls.length + 1) := by rw [blockR_length]; simp [latesTo]
theorem stepTo_length (out : List (List Fate)) {ports : Int} {s : RShip} (hs : SOk ports s) (k : Nat) : (stepTo out s k).length ≤ k * 16 := by
 unfold stepTo
 have key : ∀ (o : List (List Fate)),(o.flatMap fun f => blockR f s (lateL s)).length ≤ o.length * 16 := by
  intro o
  induction o with
  | nil => simp
  | cons f o iho =>
   rw [List.flatMap_cons,List.length_append,blockR_length,List.length_cons]
   have ha : (lateL s).length ≤ 4 := by
    have := hs.late
    simp [lateL]; omega
   have hb := hs.n
   have hm := Nat.mul_le_mul ha (show s.calls.length + 1 ≤ 4 by omega)
   omega
 have h1 := key (out.take k)
 have h2 := List.length_take_le k out
 have h3 := Nat.mul_le_mul_right 16 h2
 omega
theorem fatesA_snoc (f : List Fate) (a b : Int) : AV.slice 2 (List.map fateA f ++ [.agg [.int .i64 a,.int .i64 b]]) = fatesA (f ++ [Fate.mk a b]) := by simp [fatesA,fateA]
def fewTo (h : RHarb) (all : List (List Fate)) (k : Nat) : List (List Fate) := (all.take k).filter fun f => decide (lostN h.ships f ≤ h.lost)
theorem fewTo_succ (h : RHarb) {all : List (List Fate)} {k : Nat} (hk : k < all.length) : fewTo h all (k + 1) = if lostN h.ships (all[k]!) ≤ h.lost then fewTo h all k ++ [all[k]!] else fewTo h all k := by
 unfold fewTo
 rw [List.take_succ_eq_append_getElem hk,List.filter_append,getD_any hk]
 by_cases q : lostN h.ships all[k] ≤ h.lost <;> simp [q]
theorem fewTo_length (h : RHarb) (all : List (List Fate)) (k : Nat) : (fewTo h all k).length ≤ all.length := by
 unfold fewTo
 refine Nat.le_trans (List.length_filter_le _ _) ?_
 rw [List.length_take]; omega
theorem lost_count : ∀ (l : List RShip) (f : List Fate),f.length = l.length → (((List.range f.length).filter fun i => decide ((f[i]!).made < ((l[i]!).calls.length : Int))).length : Int) = lostN l f
 | [],[],_ => rfl
 | [],_ :: _,h => by simp at h
 | _ :: _,[],h => by simp at h
 | s :: l,x :: f,h => by
  have ih := lost_count l f (by simpa using h)
  have e : (List.range (x :: f).length).filter (fun i => decide (((x :: f)[i]!).made < (((s :: l)[i]!).calls.length : Int))) = (if x.made < (s.calls.length : Int) then [0] else []) ++ ((List.range f.length).filter fun i => decide ((f[i]!).made < ((l[i]!).calls.length : Int))).map (· + 1) := by
   rw [List.length_cons,List.range_succ_eq_map,List.filter_cons,List.filter_map]
   by_cases q : x.made < (s.calls.length : Int)
   ·simp [q,Function.comp_def]
   ·simp [q,Function.comp_def]
  rw [e,List.length_append,List.length_map]
  simp only [lostN,sinksI]
  rw [← ih]
  generalize ((List.range f.length).filter fun i => decide ((f[i]!).made < ((l[i]!).calls.length : Int))).length = N
  split <;> simp <;> omega
theorem fleet_c (h : RHarb) (hh : HOk h) : PCall Tryz.prog 48 [harbA h] (fleetsA (fleetsR h.ships h.lost)) := by
 intro m
 have h3 := hh.n
 have hso := hh.ship
 have hl3 := hh.l
 have hall := fun (i : Nat) (hi : i ≤ h.ships.length) => allR_length (ports := h.ports) (h.ships.take i) (fun j hj => by
  rw [List.length_take] at hj
  have : (h.ships.take i)[j]! = h.ships[j]! := by rw [getD_any (by rw [List.length_take]; omega),getD_any (by omega),List.getElem_take]
  rw [this]; exact hso j (by omega)) (by rw [List.length_take]; omega)
 have h0 : allR (h.ships.take 0) = [[]] := rfl
 simp only [harbA,harbL,fleetsA] at *
 (refine acall_intro (E := envC (modeAt [5] []) false []) (envCOk _ _ _) rfl Tryz.func48 rfl Tryz.call48 (by kernel_rfl) (by simp [Tryz.ntmps48]) ?_; simp only [Tryz.f48];  simp(maxSteps:=9^9)only[↓VX,VQ,seval])
 repeat'(first|intro _|apply And.intro)
 all_goals try first|omega|(simp only[LL];omega)|exact nlC (by decide) _|exact nbC rfl
 refine aloop (envCOk _ _ _) (fun i : Nat => ⟨[(1,.v (.eptr [.int .i64 h.ports,.int .i64 h.lost,.slice 5 (h.ships.map shipA),.slice 3 (h.letters.map letA),.slice 4 (h.reports.map repA)])),(3,.v (.slice 1 ((allR (h.ships.take i)).map fatesA))),(4,.v (.int .i64 i))],[],[],m⟩)
  (fun i => i ≤ h.ships.length) (fun i => h.ships.length - i) 0 (fun _ => rfl) (by simp) (by (simp only [FE,↓FP,seval]); try simp [allR,fatesA]) ?_
 intro i hi
 have hal := hall i hi
 have h16 : 16 ^ (h.ships.take i).length ≤ 16 ^ 3 := Nat.pow_le_pow_right (by decide) (by rw [List.length_take]; omega)
 simp(maxSteps:=9^9)only[↓VX,VQ,seval]
 repeat'(first|intro _|apply And.intro)
 all_goals try first|omega|(simp only[LL];omega)|exact nlC (by decide) _|exact nbC rfl
 ·have hilt : i < h.ships.length := by omega
  have hs := hso i hilt
  have hsu := allR_succ hilt
  have hlo := hs.late
  have hcn := hs.n
  generalize hO : allR (h.ships.take i) = out at *
  have hsl := fun k => stepTo_length out hs k
  refine aloop (envCOk _ _ _) (fun k : Nat => ⟨[(1,.v (.eptr [.int .i64 h.ports,.int .i64 h.lost,.slice 5 (h.ships.map shipA),.slice 3 (h.letters.map letA),.slice 4 (h.reports.map repA)])),(3,.v (.slice 1 (out.map fatesA))),(4,.v (.int .i64 i)),(5,.loc 5 0),
    (6,.v (.slice 1 ((stepTo out (h.ships[i]!) k).map fatesA))),(7,.v (.int .i64 k))],[6],[(5,[.str (h.ships[i]!).name,.int .i64 (h.ships[i]!).sails,.slice 2 ((h.ships[i]!).calls.map callA),.int .i64 (h.ships[i]!).lo,.int .i64 (h.ships[i]!).hi])],m⟩)
   (fun k => k ≤ out.length) (fun k => out.length - k) 0 (fun _ => rfl) (by simp) (by (simp only [FE,↓FP,seval]); try simp [stepTo,overlay]) ?_
  intro k hk
  have hsl' := hsl k
  simp(maxSteps:=9^9)only[↓VX,VQ,seval]
  repeat'(first|intro _|apply And.intro)
  all_goals try first|omega|(simp only[LL];omega)|exact nlC (by decide) _|exact nbC rfl
  ·have hklt : k < out.length := by omega
   have hsk := stepTo_succ (s := h.ships[i]!) hklt
   have hfl : (out[k]!).length ≤ 1000 := by
    rw [getD_any hklt]
    have hm : out[k] ∈ allR (h.ships.take i) := by rw [hO]; exact List.getElem_mem hklt
    have := fok_len ((mem_allR _ _).1 hm)
    rw [List.length_take] at this
    omega
   have hnl : (h.ships[i]!).lo + (((h.ships[i]!).hi - (h.ships[i]!).lo + 1).toNat : Int) = (h.ships[i]!).hi + 1 := by omega
   have hll : lateL (h.ships[i]!) = latesTo (h.ships[i]!) ((h.ships[i]!).hi - (h.ships[i]!).lo + 1).toNat := rfl
   generalize hNL : ((h.ships[i]!).hi - (h.ships[i]!).lo + 1).toNat = NL at *
   have hNL4 : NL ≤ 4 := by omega
   refine aloop (envCOk _ _ _) (fun j : Nat => ⟨[(1,.v (.eptr [.int .i64 h.ports,.int .i64 h.lost,.slice 5 (h.ships.map shipA),.slice 3 (h.letters.map letA),.slice 4 (h.reports.map repA)])),(3,.v (.slice 1 (out.map fatesA))),(4,.v (.int .i64 i)),(5,.loc 5 0),
     (6,.v (.slice 1 ((stepTo out (h.ships[i]!) k ++ blockR (out[k]!) (h.ships[i]!) (latesTo (h.ships[i]!) j)).map fatesA))),(7,.v (.int .i64 k)),(8,.v (.int .i64 ((h.ships[i]!).lo + j)))],[6],[(5,[.str (h.ships[i]!).name,.int .i64 (h.ships[i]!).sails,.slice 2 ((h.ships[i]!).calls.map callA),.int .i64 (h.ships[i]!).lo,.int .i64 (h.ships[i]!).hi])],m⟩)
    (fun j => j ≤ NL) (fun j => NL - j) 0 (fun _ => rfl) (by simp) (by (simp only [FE,↓FP,seval]); try simp [latesTo,blockR]) ?_
   intro j hj
   have hbl := blockTo_length (out[k]!) (h.ships[i]!) j
   have hbs := blockR_succ (out[k]!) (h.ships[i]!) j
   have hm4 := Nat.mul_le_mul (show j ≤ 4 by omega) (show (h.ships[i]!).calls.length + 1 ≤ 4 by omega)
   simp(maxSteps:=9^9)only[↓VX,VQ,seval]
   repeat'(first|intro _|apply And.intro)
   all_goals try first|omega|(simp only[LL];omega)|exact nlC (by decide) _|exact nbC rfl
   ·have hjlt : j < NL := by omega
    refine aloop (envCOk _ _ _) (fun q : Nat => ⟨[(1,.v (.eptr [.int .i64 h.ports,.int .i64 h.lost,.slice 5 (h.ships.map shipA),.slice 3 (h.letters.map letA),.slice 4 (h.reports.map repA)])),(3,.v (.slice 1 (out.map fatesA))),(4,.v (.int .i64 i)),(5,.loc 5 0),
      (6,.v (.slice 1 ((stepTo out (h.ships[i]!) k ++ blockR (out[k]!) (h.ships[i]!) (latesTo (h.ships[i]!) j) ++ rowR (out[k]!) ((h.ships[i]!).lo + j) (madesTo q)).map fatesA))),(7,.v (.int .i64 k)),(8,.v (.int .i64 ((h.ships[i]!).lo + j))),(9,.v (.int .i64 q))],[6],[(5,[.str (h.ships[i]!).name,.int .i64 (h.ships[i]!).sails,.slice 2 ((h.ships[i]!).calls.map callA),.int .i64 (h.ships[i]!).lo,.int .i64 (h.ships[i]!).hi])],m⟩)
     (fun q => q ≤ (h.ships[i]!).calls.length + 1) (fun q => (h.ships[i]!).calls.length + 1 - q) 0 (fun _ => rfl) (by simp) (by (simp only [FE,↓FP,seval]); try simp [madesTo,rowR]) ?_
    intro q hq
    have hrl := rowR_length (out[k]!) ((h.ships[i]!).lo + j) q
    have hrs := rowR_succ (out[k]!) ((h.ships[i]!).lo + j) q
    have hfs := fatesA_snoc (out[k]!) ((h.ships[i]!).lo + j) q
    simp(maxSteps:=9^9)only[↓VX,VQ,seval,↓ixFates]
    repeat'(first|intro _|apply And.intro)
    all_goals try first|omega|(simp only[LL];omega)|exact nlC (by decide) _|exact nbC rfl
    ·(refine ⟨q + 1,by first | omega | (dsimp only; omega),by dsimp only; omega,?_⟩; (simp only [FE,↓FP,seval]); try simp [hrs,← hfs,overlay,AV.cells,-List.getElem!_eq_getElem?_getD])
    ·have hqq : q = (h.ships[i]!).calls.length + 1 := by omega
     subst hqq
     have hbs' : blockR (out[k]!) (h.ships[i]!) (latesTo (h.ships[i]!) (j + 1)) = blockR (out[k]!) (h.ships[i]!) (latesTo (h.ships[i]!) j) ++ rowR (out[k]!) ((h.ships[i]!).lo + j) (madesTo ((h.ships[i]!).calls.length + 1)) := hbs
     (refine ⟨j + 1,by first | omega | (dsimp only; omega),by dsimp only; omega,?_⟩; (simp only [FE,↓FP,seval]); try simp [hbs',Int.add_assoc,-List.getElem!_eq_getElem?_getD])
   ·have hjj : j = NL := by omega
    subst hjj
    (refine ⟨k + 1,by first | omega | (dsimp only; omega),by dsimp only; omega,?_⟩; (simp only [FE,↓FP,seval]); try simp [hsk,hll,-List.getElem!_eq_getElem?_getD])
  ·have hkk : k = out.length := by omega
   subst hkk
   have hsa := stepTo_all out (h.ships[i]!)
   (refine ⟨i + 1,by first | omega | (dsimp only; omega),by dsimp only; omega,?_⟩; (simp only [FE,↓FP,seval]); try simp [hsu,hsa,-List.getElem!_eq_getElem?_getD])
 ·have hii : i = h.ships.length := by omega
  subst hii
  rw [List.take_length] at *
  generalize hO : allR h.ships = all at *
  have hfe : fewTo h all all.length = fleetsR h.ships h.lost := by unfold fewTo fleetsR; rw [List.take_length,hO]
  refine aloop (envCOk _ _ _) (fun k : Nat => ⟨[(1,.v (.eptr [.int .i64 h.ports,.int .i64 h.lost,.slice 5 (h.ships.map shipA),.slice 3 (h.letters.map letA),.slice 4 (h.reports.map repA)])),(3,.v (.slice 1 (all.map fatesA))),(10,.v (.slice 1 ((fewTo h all k).map fatesA))),(11,.v (.int .i64 k))],[10],[],m⟩)
   (fun k => k ≤ all.length) (fun k => all.length - k) 0 (fun _ => rfl) (by simp) (by (simp only [FE,↓FP,seval]); try simp [fewTo]) ?_
  intro k hk
  have hfl := fewTo_length h all k
  simp(maxSteps:=9^9)only[↓VX,VQ,seval]
  repeat'(first|intro _|apply And.intro)
  all_goals try first|omega|(simp only[LL];omega)|exact nlC (by decide) _|exact nbC rfl
  ·have hklt : k < all.length := by omega
   have hfk := fewTo_succ h hklt
   have hlen : (all[k]!).length = h.ships.length := by
    rw [getD_any hklt]; exact fok_len ((mem_allR _ _).1 (by rw [hO]; exact List.getElem_mem hklt))
   have hln := lost_count h.ships (all[k]!) hlen
   have hlc := reflost_c h (all[k]!) (by omega) h3
   have hll : ((lostL h (all[k]!) (all[k]!).length).length : Int) = lostN h.ships (all[k]!) := by rw [← hln,lostL,List.length_map]
   simp only [harbA,harbL,ints,fatesA] at hlc
   (refine adraw (by first | exact envOk _ | exact envCOk _ _ _) mixed [⟨false,false,0⟩,⟨false,false,0⟩,⟨false,false,0⟩,⟨false,false,0⟩,⟨false,false,0⟩,⟨false,false,0⟩,⟨false,false,0⟩,⟨false,false,0⟩,⟨false,false,0⟩,⟨false,false,0⟩] (by kernel_rfl) ?_; show vcOpsD _ _ _ (_ :: _) _ _)
   simp(maxSteps:=9^9)only[↓VX,VQ,seval,↓ixFates]
   refine ⟨⟨by omega,hklt⟩,?_⟩
   refine VPure.of hlc ?_
   simp(maxSteps:=9^9)only[↓VX,VQ,seval]
   have hlen2 : ((lostL h (all[k]!) (all[k]!).length).length) ≤ 1000 := by
    unfold lostL; rw [List.length_map]
    refine Nat.le_trans (List.length_filter_le _ _) ?_
    rw [List.length_range]; omega
   repeat'(first|intro _|apply And.intro)
   all_goals try first|omega|(simp only[LL];omega)|exact nlC (by decide) _|exact nbC rfl
   ·have hle : lostN h.ships (all[k]!) ≤ h.lost := by omega
    rw [if_pos hle] at hfk
    simp only [fatesA]
    simp(maxSteps:=9^9)only[↓VX,VQ,seval]
    have hfx : AV.slice 2 (List.map fateA (all[k]!)) = fatesA (all[k]!) := rfl
    (refine ⟨k + 1,by first | omega | (dsimp only; omega),by dsimp only; omega,?_⟩; (simp only [FE,↓FP,seval]); try simp [hfk,hfx,-List.getElem!_eq_getElem?_getD])
   ·have hle : ¬ lostN h.ships (all[k]!) ≤ h.lost := by omega
    rw [if_neg hle] at hfk
    (refine ⟨k + 1,by first | omega | (dsimp only; omega),by dsimp only; omega,?_⟩; (simp only [FE,↓FP,seval]); try simp [hfk,-List.getElem!_eq_getElem?_getD])
  ·have hkk : k = all.length := by omega
   subst hkk
   rw [hfe]
structure RTru where
 fleet : List Fate
 by_ : List (List Int)
 deriving Inhabited
def byA (l : List (List Int)) : AV := .slice 1 (l.map ints)
def truA (t : RTru) : AV := .agg [fatesA t.fleet,byA t.by_]
def trusA (l : List RTru) : AV := .slice 2 (l.map truA)
def ofS (h : RHarb) (but : List Int) (i : Nat) : Bool := decide ((h.reports[i]!).kind < 2) && decide ((i : Int) ∉ but)
def saidB (h : RHarb) (l : List Fate) (but : List Int) (n : Nat) : Bool := (List.range n).all fun i => !ofS h but i || soB (h.reports[i]!) (dayR h l (h.reports[i]!).of_.toNat (h.reports[i]!).port)
def goB (h : RHarb) (l : List Fate) (but : List Int) (n : Nat) : Bool := (List.range n).all fun k => decide (0 < (couldL h l k but h.ships.length).length)
def byTo (h : RHarb) (l : List Fate) (but : List Int) (n : Nat) : List (List Int) := (List.range n).map fun k => couldL h l k but h.ships.length
def trueB (h : RHarb) (but : List Int) (l : List Fate) : Bool := saidB h l but h.reports.length && goB h l but h.letters.length
def truOf (h : RHarb) (but : List Int) (l : List Fate) : RTru := ⟨l,byTo h l but h.letters.length⟩
def truTo (h : RHarb) (but : List Int) (all : List (List Fate)) (n : Nat) : List RTru := ((all.take n).filter (trueB h but)).map (truOf h but)
def truthsR (h : RHarb) (but : List Int) : List RTru := ((fleetsR h.ships h.lost).filter (trueB h but)).map (truOf h but)
theorem saidB_succ (h : RHarb) (l : List Fate) (but : List Int) (n : Nat) : saidB h l but (n + 1) = (saidB h l but n && (!ofS h but n || soB (h.reports[n]!) (dayR h l (h.reports[n]!).of_.toNat (h.reports[n]!).port))) := by
 unfold saidB; rw [List.range_succ,List.all_append]; simp
theorem goB_succ (h : RHarb) (l : List Fate) (but : List Int) (n : Nat) : goB h l but (n + 1) = (goB h l but n && decide (0 < (couldL h l n but h.ships.length).length)) := by
 unfold goB; rw [List.range_succ,List.all_append]; simp
theorem goB_less (h : RHarb) (l : List Fate) (but : List Int) {k n : Nat} (hk : k ≤ n) (e : goB h l but k = false) : goB h l but n = false := by
 induction n with
 | zero => rw [show k = 0 by omega] at e; exact e
 | succ n ih =>
  by_cases q : k = n + 1
  ·rw [← q]; exact e
  ·rw [goB_succ,ih (by omega)]; rfl
theorem byTo_succ (h : RHarb) (l : List Fate) (but : List Int) (n : Nat) : byTo h l but (n + 1) = byTo h l but n ++ [couldL h l n but h.ships.length] := by
 unfold byTo; rw [List.range_succ]; simp
theorem byTo_length (h : RHarb) (l : List Fate) (but : List Int) (n : Nat) : (byTo h l but n).length = n := by simp [byTo]
theorem truTo_succ (h : RHarb) (but : List Int) {all : List (List Fate)} {n : Nat} (hn : n < all.length) : truTo h but all (n + 1) = if trueB h but (all[n]!) = true then truTo h but all n ++ [truOf h but (all[n]!)] else truTo h but all n := by
 unfold truTo
 rw [List.take_succ_eq_append_getElem hn,List.filter_append,List.map_append,getD_any hn]
 by_cases q : trueB h but all[n] = true
 ·rw [if_pos q]; simp [q]
 ·rw [if_neg q]; simp [q]
theorem truTo_length (h : RHarb) (but : List Int) (all : List (List Fate)) (n : Nat) : (truTo h but all n).length ≤ all.length := by
 unfold truTo
 rw [List.length_map]
 refine Nat.le_trans (List.length_filter_le _ _) ?_
 rw [List.length_take]; omega
theorem fleets_len {h : RHarb} (hh : HOk h) : (fleetsR h.ships h.lost).length ≤ 4096 := by
 unfold fleetsR
 refine Nat.le_trans (List.length_filter_le _ _) ?_
 refine Nat.le_trans (allR_length (ports := h.ports) h.ships hh.ship hh.n) ?_
 exact Nat.pow_le_pow_right (by decide) hh.n
theorem fok_at : ∀ {l : List RShip} {f : List Fate},fokB l f = true → ∀ i,i < l.length → ((l[i]!).lo ≤ (f[i]!).late ∧ (f[i]!).late ≤ (l[i]!).hi) ∧ (0 ≤ (f[i]!).made ∧ (f[i]!).made ≤ ((l[i]!).calls.length : Int))
 | [],_,_,i,hi => by simp at hi
 | _ :: _,[],e,_,_ => by simp [fokB] at e
 | s :: l,x :: f,e,i,hi => by
  simp only [fokB,Bool.and_eq_true,decide_eq_true_eq] at e
  cases i with
  | zero => simpa using ⟨by omega,by omega⟩
  | succ i =>
   have := fok_at (l := l) (f := f) (by simp_all) i (by simpa using hi)
   simpa using this
theorem fok_fok {h : RHarb} (hh : HOk h) {f : List Fate} (e : fokB h.ships f = true) : FOk h f := by
 have hl := fok_len e
 refine ⟨hl,fun s hs => ?_,fun s hs => (fok_at e s (by omega)).2⟩
 have := (fok_at e s (by omega)).1
 have q := (hh.ship s (by omega)).late
 omega
theorem fleets_fok {h : RHarb} (hh : HOk h) {f : List Fate} (e : f ∈ fleetsR h.ships h.lost) : FOk h f := fok_fok hh (mem_fleetsR.1 e).1
theorem truths_c (h : RHarb) (hh : HOk h) (but : List Int) : PCall Tryz.prog 14 [harbA h,ints but] (trusA (truthsR h but)) := by
 intro m
 have h3 := hh.n
 have hnl := hh.nl
 have hnr := hh.nr
 have hfl := fleet_c h hh
 have hlen := fleets_len hh
 have hfo := fun (i : Nat) (hi : i < (fleetsR h.ships h.lost).length) => fleets_fok hh (f := (fleetsR h.ships h.lost)[i]!) (by rw [getD_any hi]; exact List.getElem_mem hi)
 have hte : truTo h but (fleetsR h.ships h.lost) (fleetsR h.ships h.lost).length = truthsR h but := by unfold truTo truthsR; rw [List.take_length]
 have hhas := fun (i : Nat) => has_c but (i : Int)
 have hrp := hh.report
 generalize hA : fleetsR h.ships h.lost = all at *
 have hcan := fun (l : List Fate) (hl : FOk h l) (k : Nat) (hk : k < h.letters.length) => could_c h hh l hl k hk but
 have hsa := fun (l : List Fate) (hl : FOk h l) (r : RRep) (q1 : r.kind < 2) (q2 : 0 ≤ r.of_ ∧ r.of_.toNat < h.ships.length) => said_c h hh l r q1 q2 (by rw [hl.n]; exact q2.2) (hl.late _ (by rw [hl.n]; exact q2.2))
 simp only [harbA,harbL,fleetsA,fatesA,ints,trusA,repA] at *
 (refine acall_intro (E := envC (modeAt [8,11] []) false []) (envCOk _ _ _) rfl Tryz.func14 rfl Tryz.call14 (by kernel_rfl) (by simp [Tryz.ntmps14]) ?_; simp only [Tryz.f14];  simp(maxSteps:=9^9)only[↓VX,VQ,seval])
 ((refine ACall.pure (hfl) ?_; try simp(maxSteps:=9^9)only[↓VX,VQ,seval]); try simp(maxSteps:=9^9)only[↓VX,VQ,seval,GL])
 repeat'(first|intro _|apply And.intro)
 all_goals try first|omega|(simp only[LL];omega)|exact nlC (by decide) _|exact nbC rfl
 refine aloop (envCOk _ _ _) (fun i : Nat => ⟨[(1,.v (.slice 1 (but.map (AV.int .i64)))),(2,.v (.eptr [.int .i64 h.ports,.int .i64 h.lost,.slice 5 (h.ships.map shipA),.slice 3 (h.letters.map letA),.slice 4 (h.reports.map repA)])),(5,.v (.slice 1 (all.map fatesA))),(6,.v (.slice 2 ((truTo h but all i).map truA))),(7,.v (.int .i64 i))],[6],[],m⟩)
  (fun i => i ≤ all.length) (fun i => all.length - i) 0 (fun _ => rfl) (by simp) (by (simp only [FE,↓FP,seval]); try simp [truTo]) ?_
 intro i hi
 have htl := truTo_length h but all i
 simp(maxSteps:=9^9)only[↓VX,VQ,seval,↓ixFates]
 repeat'(first|intro _|apply And.intro)
 all_goals try first|omega|(simp only[LL];omega)|exact nlC (by decide) _|exact nbC rfl
 ·rfl
 ·rfl
 ·have hilt : i < all.length := by omega
  have hfi := hfo i hilt
  have hts := truTo_succ h but hilt
  have htb : trueB h but (all[i]!) = (saidB h (all[i]!) but h.reports.length && goB h (all[i]!) but h.letters.length) := rfl
  have hto : truOf h but (all[i]!) = ⟨all[i]!,byTo h (all[i]!) but h.letters.length⟩ := rfl
  generalize hf : all[i]! = f at *
  refine aloop (envCOk _ _ _) (fun k : Nat => ⟨[(1,.v (.slice 1 (but.map (AV.int .i64)))),(2,.v (.eptr [.int .i64 h.ports,.int .i64 h.lost,.slice 5 (h.ships.map shipA),.slice 3 (h.letters.map letA),.slice 4 (h.reports.map repA)])),(5,.v (.slice 1 (all.map fatesA))),(6,.v (.slice 2 ((truTo h but all i).map truA))),(7,.v (.int .i64 i)),(8,.loc 8 0),(9,.v (.bool (saidB h f but k))),(10,.v (.int .i64 k))],[6],[(8,[.slice 2 (f.map fateA),.slice 1 []])],m⟩)
   (fun k => k ≤ h.reports.length) (fun k => h.reports.length - k) 0 (fun _ => rfl) (by simp) (by (simp only [FE,↓FP,seval]); try simp [saidB,overlay,AV.cells]) ?_
  intro k hk
  have hsb := saidB_succ h f but k
  have hof : ofS h but k = (decide ((h.reports[k]!).kind < 2) && decide ((k : Int) ∉ but)) := rfl
  have hhas' := hhas k
  have hrp' := fun (q : k < h.reports.length) => hrp k q
  have hsa' := hsa f hfi (h.reports[k]!)
  generalize hR : saidB h f but k = R at *
  generalize hD : soB (h.reports[k]!) (dayR h f (h.reports[k]!).of_.toNat (h.reports[k]!).port) = D at *
  simp(maxSteps:=9^9)only[↓VX,VQ,seval]
  repeat'(first|intro _|apply And.intro)
  all_goals try first|omega|(simp only[LL];omega)|exact nlC (by decide) _|exact nbC rfl
  ·have hklt : k < h.reports.length := by omega
   have q1 : (h.reports[k]!).kind < 2 := by assumption
   have q3 := (hrp' hklt).2.1
   rw [if_pos q1] at q3
   have hsa2 := hsa' q1 ⟨q3.1,by omega⟩
   rw [decide_eq_true q1,Bool.true_and] at hof
   ((refine ACall.pure (hhas') ?_; try simp(maxSteps:=9^9)only[↓VX,VQ,seval]); try simp(maxSteps:=9^9)only[↓VX,VQ,seval,GL])
   repeat'(first|intro _|apply And.intro)
   all_goals try first|omega|(simp only[LL];omega)|exact nlC (by decide) _|exact nbC rfl
   ·have q4 : ¬ (k : Int) ∈ but := by assumption
    rw [decide_eq_true q4] at hof
    rw [hof] at hsb
    (refine adraw (by first | exact envOk _ | exact envCOk _ _ _) mixed [⟨false,false,0⟩,⟨false,false,0⟩,⟨false,false,0⟩,⟨false,false,0⟩,⟨false,false,0⟩,⟨false,false,0⟩,⟨false,false,0⟩,⟨false,false,0⟩,⟨false,false,0⟩,⟨false,false,0⟩,⟨false,false,0⟩] (by kernel_rfl) ?_; show vcOpsD _ _ _ (_ :: _) _ _)
    simp(maxSteps:=9^9)only[↓VX,VQ,seval,↓ixFates,hf]
    repeat'(first|intro _|apply And.intro)
    all_goals try first|omega|(simp only[LL];omega)|exact nlC (by decide) _|exact nbC rfl
    ·refine VPure.of hsa2 ?_
     simp(maxSteps:=9^9)only[↓VX,VQ,seval]
     repeat'(first|intro _|apply And.intro)
     all_goals try first|omega|(simp only[LL];omega)|exact nlC (by decide) _|exact nbC rfl
     have q5 : R = true := by assumption
     refine ⟨k + 1,by dsimp only; omega,by dsimp only; omega,?_⟩
     (simp only [FE,↓FP,seval])
     rw [hsb,q5]
     simp
    ·have q5 : R = false := by rw [← Bool.not_eq_true]; assumption
     refine ⟨k + 1,by dsimp only; omega,by dsimp only; omega,?_⟩
     (simp only [FE,↓FP,seval])
     rw [hsb,q5]
     simp
   ·have q4 : (k : Int) ∈ but := by apply Decidable.byContradiction; assumption
    rw [decide_eq_false (fun h => h q4)] at hof
    refine ⟨k + 1,by dsimp only; omega,by dsimp only; omega,?_⟩
    (simp only [FE,↓FP,seval])
    rw [hsb,hof]
    simp
  ·have q1 : ¬ (h.reports[k]!).kind < 2 := by assumption
   rw [decide_eq_false q1,Bool.false_and] at hof
   refine ⟨k + 1,by dsimp only; omega,by dsimp only; omega,?_⟩
   (simp only [FE,↓FP,seval])
   rw [hsb,hof]
   simp
  ·have hke : k = h.reports.length := by omega
   subst hke
   clear hsb hof hhas' hrp' hsa' hD
   rw [hR] at htb
   refine aloop (envCOk _ _ _) (fun k : Nat => ⟨[(1,.v (.slice 1 (but.map (AV.int .i64)))),(2,.v (.eptr [.int .i64 h.ports,.int .i64 h.lost,.slice 5 (h.ships.map shipA),.slice 3 (h.letters.map letA),.slice 4 (h.reports.map repA)])),(5,.v (.slice 1 (all.map fatesA))),(6,.v (.slice 2 ((truTo h but all i).map truA))),(7,.v (.int .i64 i)),(8,.loc 8 0),(9,.v (.bool (R && goB h f but k))),(12,.v (.int .i64 k))],[6],[(8,[.slice 2 (f.map fateA),.slice 1 ((byTo h f but k).map ints)])],m⟩)
    (fun k => k ≤ h.letters.length) (fun k => h.letters.length - k) 0 (fun _ => rfl) (by simp) (by (simp only [FE,↓FP,seval]); try simp [goB,byTo,overlay,AV.cells]) ?_
   intro k hk
   have hgs := goB_succ h f but k
   have hgl := fun e => goB_less h f but hk e
   have hbs := byTo_succ h f but k
   have hbl := byTo_length h f but k
   have hcl := couldL_length h f k but h.ships.length
   have hcan' := hcan f hfi k
   generalize hG : goB h f but k = G at *
   simp(maxSteps:=9^9)only[↓VX,VQ,seval]
   repeat'(first|intro _|apply And.intro)
   all_goals try first|omega|(simp only[LL];omega)|exact nlC (by decide) _|exact nbC rfl
   ·have hklt : k < h.letters.length := by omega
    have hcan2 := hcan' hklt
    have q6 : (R && G) = true := by assumption
    (refine adraw (by first | exact envOk _ | exact envCOk _ _ _) mixed [⟨false,false,0⟩,⟨false,false,0⟩,⟨false,false,0⟩,⟨false,false,0⟩,⟨false,false,0⟩,⟨false,false,0⟩,⟨false,false,0⟩,⟨false,false,0⟩,⟨false,false,0⟩] (by kernel_rfl) ?_; show vcOpsD _ _ _ (_ :: _) _ _)
    simp(maxSteps:=9^9)only[↓VX,VQ,seval,↓ixFates,hf]
    refine ⟨⟨by omega,by omega⟩,?_⟩
    refine VPure.of hcan2 ?_
    simp(maxSteps:=9^9)only[↓VX,VQ,seval]
    repeat'(first|intro _|apply And.intro)
    all_goals try first|omega|(simp only[LL];omega)|exact nlC (by decide) _|exact nbC rfl
    refine ⟨k + 1,by dsimp only; omega,by dsimp only; omega,?_⟩
    have q7 : (R && goB h f but (k + 1)) = decide (0 < (couldL h f k but h.ships.length).length) := by rw [hgs,← Bool.and_assoc,q6,Bool.true_and]
    (simp only [FE,↓FP,seval])
    rw [q7,hbs]
    simp [overlay,AV.cells,ints]
   ·exact absurd (show (R && G) = true by assumption) (show ¬ (R && G) = true by assumption)
   ·have q6 : ¬ (R && G) = true := by assumption
    have hz : trueB h but f = false := by
     rw [htb]
     cases R
     ·rfl
     ·rw [hgl (by simpa using q6)]; rfl
    rw [if_neg (by rw [hz]; decide)] at hts
    (refine ⟨i + 1,by first | omega | (dsimp only; omega),by dsimp only; omega,?_⟩; (simp only [FE,↓FP,seval]); try simp [hts])
   ·have hke : k = h.letters.length := by omega
    subst hke
    have q6 : (R && G) = true := by assumption
    rw [hG,q6] at htb
    rw [if_pos htb,hto] at hts
    (refine ⟨i + 1,by first | omega | (dsimp only; omega),by dsimp only; omega,?_⟩; (simp only [FE,↓FP,seval]); try simp [hts,truA,fatesA,byA,ints])
   ·have hke : k = h.letters.length := by omega
    subst hke
    have q6 : ¬ (R && G) = true := by assumption
    rw [hG] at htb
    rw [if_neg (by rw [htb]; exact q6)] at hts
    (refine ⟨i + 1,by first | omega | (dsimp only; omega),by dsimp only; omega,?_⟩; (simp only [FE,↓FP,seval]); try simp [hts])
 ·rw [show i = all.length by omega,hte]
def knownR (h : RHarb) (e : Int) : List RTru × Int := if e ≠ 0 then ([],e) else if truthsR h [] = [] then ([],8) else (truthsR h [],0)
theorem truths_len {h : RHarb} (hh : HOk h) (but : List Int) : (truthsR h but).length ≤ 4096 := by
 unfold truthsR
 rw [List.length_map]
 exact Nat.le_trans (List.length_filter_le _ _) (fleets_len hh)
def calledTo (h : RHarb) (l : List RTru) (s : Nat) (port : Int) : Nat → (Int × Int) × Int
 | 0 => ((0,0),0)
 | n + 1 => if dayR h (l[n]!).fleet s port < 0 then calledTo h l s port n
  else if (calledTo h l s port n).2 = 0 then ((dayR h (l[n]!).fleet s port,dayR h (l[n]!).fleet s port),1)
  else ((min (calledTo h l s port n).1.1 (dayR h (l[n]!).fleet s port),max (calledTo h l s port n).1.2 (dayR h (l[n]!).fleet s port)),(calledTo h l s port n).2 + 1)
theorem called_le (h : RHarb) (l : List RTru) (s : Nat) (port : Int) (n : Nat) : 0 ≤ (calledTo h l s port n).2 ∧ (calledTo h l s port n).2 ≤ n := by
 induction n with
 | zero => simp [calledTo]
 | succ n ih =>
  unfold calledTo
  split
  ·omega
  ·split <;> dsimp only <;> omega
end Go.Proofs.YtikodjpbknneoaaGreat.Abs
