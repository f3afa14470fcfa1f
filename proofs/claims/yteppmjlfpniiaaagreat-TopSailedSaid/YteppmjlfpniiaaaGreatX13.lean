/- Lemmas for the statements of this seat (X13): they hold without conditions beyond those that each one states. -/
import Derived.Test.YteppmjlfpniiaaaGreatX12
import Derived.Test.YteppmjlfpniiaaaGreatX6
import Derived.Test.YteppmjlfpniiaaaGreatX11
/- Contracts: the reference's checks of a harbour. -/
namespace Go.Proofs.YteppmjlfpniiaaaGreat.Abs
set_option linter.unusedSimpArgs false
set_option maxHeartbeats 4000000
set_option maxRecDepth 100000
open Go Go.RowKit Go.Proofs
theorem in_o (n lo hi : Int) : PCall Tryz.prog 12 [.int .i64 n,.int .i64 lo,.int .i64 hi] (.bool (!offP lo hi n)) := by
 have h := in_c n lo hi
 have e : decide (lo ≤ n ∧ n ≤ hi) = !offP lo hi n := by
  rw [Bool.eq_iff_iff]; simp [offP]
 rwa [e] at h
theorem refat_c (s : RShip) (p : Int) : PCall Tryz.prog 50 [shipA s,.int .i64 p] (.int .i64 (atC s.calls p)) := by
 intro m
 simp only [shipA,shipL]
 (refine acall_intro (E := env fun _ => .imm) (envOk _) rfl Tryz.func50 rfl Tryz.call50 (by kernel_rfl) (by simp [Tryz.ntmps50]) ?_; simp only [Tryz.f50];  simp(maxSteps:=9^9)only[↓VP,VQ,seval])
 refine aloop (envOk _) (fun k : Nat => ⟨[(1,.v (.int .i64 p)),(2,.v (.eptr [.str s.name,.int .i64 s.sails,.slice 2 (s.calls.map callA),.int .i64 s.lo,.int .i64 s.hi])),(5,.v (.int .i64 k))],[],[],m⟩)
  (fun k => k ≤ s.calls.length ∧ ∀ x ∈ s.calls.take k,¬ x.port = p) (fun k => s.calls.length - k) 0 (fun _ => rfl) (by simp) (by (simp only [FE,↓FP,seval]); try simp) ?_
 rintro k ⟨hk,hp⟩
 simp(maxSteps:=9^9)only[↓VP,VQ,seval,↓callA]
 repeat'(first|intro _|apply And.intro)
 all_goals try first|omega|(simp only[LL];omega)|exact nlC (by decide) _|exact nbC rfl
 ·have hlt : k < s.calls.length := by omega
  have q : (s.calls[k]!).port = p := by assumption
  unfold atC
  rw [idxL_at hlt (fun x hx => decide_eq_false (hp x hx)) (by rw [← getD_any hlt]; exact decide_eq_true q)]
 ·have hlt : k < s.calls.length := by omega
  have q : ¬ (s.calls[k]!).port = p := by assumption
  refine ⟨k + 1,⟨by omega,forall_take_succ (p := fun x : RCall => ¬ x.port = p) hlt hp (by rw [← getD_any hlt]; exact q)⟩,by dsimp only; omega,?_⟩
  (simp only [FE,↓FP,seval])
  simp
 ·rw [List.take_of_length_le (by omega)] at hp
  unfold atC
  rw [idxL_neg (fun x hx => decide_eq_false (hp x hx))]
theorem reftakes_c (s : RShip) (p d : Int) : PCall Tryz.prog 11 [shipA s,.int .i64 p,.int .i64 d] (.bool (takesB s p d)) := by
 intro m
 have h := refat_c s p
 simp only [shipA,shipL] at *
 have e : takesB s p d = (decide (d ≤ s.sails) && decide (0 ≤ atC s.calls p)) := rfl
 (refine acall_intro (E := env fun _ => .imm) (envOk _) rfl Tryz.func11 rfl Tryz.call11 (by kernel_rfl) (by simp [Tryz.ntmps11]) ?_; simp only [Tryz.f11];  simp(maxSteps:=9^9)only[↓VP,VQ,seval])
 repeat'(first|intro _|apply And.intro)
 ·((refine ACall.pure (h) ?_; try simp(maxSteps:=9^9)only[↓VP,VQ,seval]); try simp(maxSteps:=9^9)only[↓VP,VQ,seval,GL])
  repeat'(first|intro _|apply And.intro)
  rw [e]; congr 1; simp [*]
 ·rw [e]; congr 1; simp [*]
theorem port_c (h : RHarb) (hp : portsFit h) (n : Int) : PCall Tryz.prog 55 [harbA h,.int .i64 n] (.bool (!offP 0 (h.ports - 1) n)) := by
 intro m
 unfold portsFit at hp
 have h1 := in_o n 0 (h.ports - 1)
 simp only [harbA,harbL] at *
 (refine acall_intro (E := env fun _ => .imm) (envOk _) rfl Tryz.func55 rfl Tryz.call55 (by kernel_rfl) (by simp [Tryz.ntmps55]) ?_; simp only [Tryz.f55];  simp(maxSteps:=9^9)only[↓VP,VQ,seval])
 repeat'(first|intro _|apply And.intro)
 all_goals try first|omega|(simp only[LL];omega)|exact nlC (by decide) _|exact nbC rfl
 ((refine ACall.pure (h1) ?_; try simp(maxSteps:=9^9)only[↓VP,VQ,seval]); try simp(maxSteps:=9^9)only[↓VP,VQ,seval,GL])
theorem ends_c (lo hi a b : Int) : PCall Tryz.prog 53 [.agg [.int .i64 a,.int .i64 b],.int .i64 lo,.int .i64 hi] (.int .i64 (if (offP lo hi a || offP lo hi b) = true then 7 else if b < a then 2 else 0)) := by
 intro m
 have h1 := in_o a lo hi
 have h2 := in_o b lo hi
 have e : (if (offP lo hi a || offP lo hi b) = true then (7 : Int) else if b < a then 2 else 0) = if (offP lo hi a || offP lo hi b) = true then (7 : Int) else if b < a then 2 else 0 := rfl
 (refine acall_intro (E := env fun _ => .imm) (envOk _) rfl Tryz.func53 rfl Tryz.call53 (by kernel_rfl) (by simp [Tryz.ntmps53]) ?_; simp only [Tryz.f53];  simp(maxSteps:=9^9)only[↓VP,VQ,seval])
 ((refine ACall.pure (h1) ?_; try simp(maxSteps:=9^9)only[↓VP,VQ,seval]); try simp(maxSteps:=9^9)only[↓VP,VQ,seval,GL])
 repeat'(first|intro _|apply And.intro)
 all_goals try first|omega|(simp only[LL];omega)|exact nlC (by decide) _|exact nbC rfl
 ·((refine ACall.pure (h2) ?_; try simp(maxSteps:=9^9)only[↓VP,VQ,seval]); try simp(maxSteps:=9^9)only[↓VP,VQ,seval,GL])
  repeat'(first|intro _|apply And.intro)
  all_goals try first|omega|(simp only[LL];omega)|exact nlC (by decide) _|exact nbC rfl
  all_goals (first | (rw [e]; (repeat' split) <;> first | rfl | (exfalso; omega) | (exfalso; simp_all; done) | (exfalso; simp_all; omega)))
 ·(first | (rw [e]; (repeat' split) <;> first | rfl | (exfalso; omega) | (exfalso; simp_all; done) | (exfalso; simp_all; omega)))
def callsE (ports : Int) (l : List RCall) : Int := if 3 < l.length then 3 else (failFrom (callErr ports l) 0 l).2
theorem calls_c (h : RHarb) (hp : portsFit h) (l : List RCall) : PCall Tryz.prog 54 [harbA h,.slice 2 (l.map callA)] (.int .i64 (callsE h.ports l)) := by
 intro m
 have h1 := fun n => port_c h hp n
 have h2 := fun n => in_o n 1 20
 have e : callsE h.ports l = if 3 < l.length then 3 else (failFrom (callErr h.ports l) 0 l).2 := rfl
 simp only [harbA,harbL] at *
 (refine acall_intro (E := env fun _ => .imm) (envOk _) rfl Tryz.func54 rfl Tryz.call54 (by kernel_rfl) (by simp [Tryz.ntmps54]) ?_; simp only [Tryz.f54];  simp(maxSteps:=9^9)only[↓VP,VQ,seval])
 repeat'(first|intro _|apply And.intro)
 ·rw [e,if_pos (by omega)]
 rw [if_neg (by omega)] at e
 refine aloop (envOk _) (fun k : Nat => ⟨[(1,.v (.slice 2 (l.map callA))),(2,.v (.eptr [.int .i64 h.ports,.int .i64 h.lost,.slice 5 (h.ships.map shipA),.slice 3 (h.letters.map letA),.slice 4 (h.reports.map repA)])),(5,.v (.int .i64 k))],[],[],m⟩)
  (fun k => k ≤ l.length ∧ failFrom (callErr h.ports l) k (l.drop k) = failFrom (callErr h.ports l) 0 l) (fun k => l.length - k) 0 (fun _ => rfl) (by simp) (by (simp only [FE,↓FP,seval]); try simp) ?_
 rintro k ⟨hk,hf⟩
 simp(maxSteps:=9^9)only[↓VP,VQ,seval]
 repeat'(first|intro _|apply And.intro)
 all_goals try first|omega|(simp only[LL];omega)|exact nlC (by decide) _|exact nbC rfl
 ·have hlt : k < l.length := by omega
  have e1 : l[k]! = l[k] := getD_any hlt
  rw [List.drop_eq_getElem_cons hlt] at hf
  have ec : callErr h.ports l k l[k] = if offP 0 (h.ports - 1) (l[k]!).port = true then 4 else if atC l (l[k]!).port < k then 5 else if offP 1 20 (l[k]!).after = true then 7 else if 0 < k ∧ (l[k]!).after ≤ (l[k - 1]!).after then 2 else 0 := by rw [e1]; rfl
  have hit : callErr h.ports l k l[k] ≠ 0 → callsE h.ports l = callErr h.ports l k l[k] := fun q => by rw [e,← hf,failFrom_hit q]
  have hp' := h1 (l[k]!).port
  (refine adraw (by first | exact envOk _ | exact envCOk _ _ _) mixed [⟨false,false,0⟩,⟨false,false,0⟩,⟨false,false,0⟩,⟨false,false,0⟩,⟨false,false,0⟩,⟨false,false,0⟩,⟨false,false,0⟩,⟨false,false,0⟩] (by kernel_rfl) ?_; show vcOpsD _ _ _ (_ :: _) _ _)
  simp(maxSteps:=9^9)only[↓VP,VQ,seval,↓callA]
  repeat'(first|intro _|apply And.intro)
  all_goals try first|omega|(simp only[LL];omega)|exact nlC (by decide) _|exact nbC rfl
  refine VPure.of hp' ?_
  simp(maxSteps:=9^9)only[↓VP,VQ,seval]
  repeat'(first|intro _|apply And.intro)
  all_goals try first|omega|(simp only[LL];omega)|exact nlC (by decide) _|exact nbC rfl
  ·have q : offP 0 (h.ports - 1) (l[k]!).port = true := by assumption
   rw [if_pos q] at ec
   rw [hit (by rw [ec]; decide),ec]
  have q : ¬ offP 0 (h.ports - 1) (l[k]!).port = true := by assumption
  rw [if_neg q] at ec
  refine aloop (envOk _) (fun j : Nat => ⟨[(1,.v (.slice 2 (l.map callA))),(2,.v (.eptr [.int .i64 h.ports,.int .i64 h.lost,.slice 5 (h.ships.map shipA),.slice 3 (h.letters.map letA),.slice 4 (h.reports.map repA)])),(5,.v (.int .i64 k)),(6,.v (.int .i64 j))],[],[],m⟩)
   (fun j => j ≤ k ∧ ∀ x ∈ l.take j,¬ x.port = (l[k]!).port) (fun j => k - j) 0 (fun _ => rfl) (by simp) (by (simp only [FE,↓FP,seval]); try simp) ?_
  rintro j ⟨hj,hjp⟩
  simp(maxSteps:=9^9)only[↓VP,VQ,seval,↓callA]
  repeat'(first|intro _|apply And.intro)
  all_goals try first|omega|(simp only[LL];omega)|exact nlC (by decide) _|exact nbC rfl
  ·have hjl : j < l.length := by omega
   (refine adraw (by first | exact envOk _ | exact envCOk _ _ _) mixed [⟨false,false,0⟩,⟨false,false,0⟩,⟨false,false,0⟩,⟨false,false,0⟩,⟨false,false,0⟩,⟨false,false,0⟩,⟨false,false,0⟩,⟨false,false,0⟩,⟨false,false,0⟩,⟨false,false,0⟩,⟨false,false,0⟩] (by kernel_rfl) ?_; show vcOpsD _ _ _ (_ :: _) _ _)
   simp(maxSteps:=9^9)only[↓VP,VQ,seval,↓callA]
   repeat'(first|intro _|apply And.intro)
   all_goals try first|omega|(simp only[LL];omega)|exact nlC (by decide) _|exact nbC rfl
   ·have q2 : (l[j]!).port = (l[k]!).port := by assumption
    have hat : atC l (l[k]!).port = j := by
     unfold atC
     rw [idxL_at hjl (fun x hx => decide_eq_false (hjp x hx)) (by rw [← getD_any hjl]; exact decide_eq_true q2)]
    rw [if_pos (by rw [hat]; omega)] at ec
    rw [hit (by rw [ec]; decide),ec]
   ·have q2 : ¬ (l[j]!).port = (l[k]!).port := by assumption
    refine ⟨j + 1,⟨by omega,forall_take_succ (p := fun x : RCall => ¬ x.port = (l[k]!).port) hjl hjp (by rw [← getD_any hjl]; exact q2)⟩,by dsimp only; omega,?_⟩
    (simp only [FE,↓FP,seval])
    simp
  ·have ejk : j = k := by omega
   subst ejk
   have hat : atC l (l[j]!).port = j := by
    unfold atC
    rw [idxL_at hlt (fun x hx => decide_eq_false (hjp x hx)) (by rw [← getD_any hlt]; exact decide_eq_true rfl)]
   rw [if_neg (by rw [hat]; omega)] at ec
   have hq := h2 (l[j]!).after
   ((refine ACall.pure (hq) ?_; try simp(maxSteps:=9^9)only[↓VP,VQ,seval]); try simp(maxSteps:=9^9)only[↓VP,VQ,seval,GL])
   repeat'(first|intro _|apply And.intro)
   all_goals try first|omega|(simp only[LL];omega)|exact nlC (by decide) _|exact nbC rfl
   ·have q3 : offP 1 20 (l[j]!).after = true := by assumption
    rw [if_pos q3] at ec
    rw [hit (by rw [ec]; decide),ec]
   have q3 : ¬ offP 1 20 (l[j]!).after = true := by assumption
   rw [if_neg q3] at ec
   have hn : ((j : Int) - 1).toNat = j - 1 := by omega
   (refine adraw (by first | exact envOk _ | exact envCOk _ _ _) mixed [⟨false,false,0⟩,⟨false,false,0⟩,⟨false,false,0⟩,⟨false,false,0⟩,⟨false,false,0⟩,⟨false,false,0⟩,⟨false,false,0⟩,⟨false,false,0⟩,⟨false,false,0⟩,⟨false,false,0⟩,⟨false,false,0⟩,⟨false,false,0⟩,⟨false,false,0⟩,⟨false,false,0⟩,⟨false,false,0⟩,⟨false,false,0⟩] (by kernel_rfl) ?_; show vcOpsD _ _ _ (_ :: _) _ _)
   simp(maxSteps:=9^9)only[↓VP,VQ,seval,↓callA,hn]
   repeat'(first|intro _|apply And.intro)
   all_goals try first|omega|(simp only[LL];omega)|exact nlC (by decide) _|exact nbC rfl
   ·have q4 : 0 < j ∧ (l[j]!).after ≤ (l[j - 1]!).after := ⟨by omega,by assumption⟩
    rw [if_pos q4] at ec
    rw [hit (by rw [ec]; decide),ec]
   all_goals
    have q4 : ¬ (0 < j ∧ (l[j]!).after ≤ (l[j - 1]!).after) := fun h => by omega
    rw [if_neg q4] at ec
    rw [failFrom_skip (by rw [ec]; simp)] at hf
    refine ⟨j + 1,⟨by omega,hf⟩,by dsimp only; omega,?_⟩
    (simp only [FE,↓FP,seval])
    simp
 ·rw [List.drop_eq_nil_of_le (by omega)] at hf
  rw [e,← hf]; rfl
theorem fitE_calls (ports : Int) (s : RShip) : fitE ports s = if (offP 0 20 s.sails || (offP 0 3 s.lo || offP 0 3 s.hi)) = true then 7 else if s.hi < s.lo then 2 else callsE ports s.calls := rfl
theorem fitE_ends (ports : Int) (s : RShip) : fitE ports s = if offP 0 20 s.sails = true ∨ (if (offP 0 3 s.lo || offP 0 3 s.hi) = true then (7 : Int) else if s.hi < s.lo then 2 else 0) = 7 then 7
  else if (if (offP 0 3 s.lo || offP 0 3 s.hi) = true then (7 : Int) else if s.hi < s.lo then 2 else 0) ≠ 0 then (if (offP 0 3 s.lo || offP 0 3 s.hi) = true then (7 : Int) else if s.hi < s.lo then 2 else 0) else callsE ports s.calls := by
 rw [fitE_calls]
 cases offP 0 20 s.sails <;> cases (offP 0 3 s.lo || offP 0 3 s.hi) <;> by_cases h : s.hi < s.lo <;> simp [h]
theorem refship_c (h : RHarb) (hp : portsFit h) (s : RShip) : PCall Tryz.prog 14 [harbA h,shipA s] (.int .i64 (fitE h.ports s)) := by
 intro m
 have h1 := ends_c 0 3 s.lo s.hi
 have h2 := in_o s.sails 0 20
 have h3 := calls_c h hp s.calls
 have e := fitE_ends h.ports s
 generalize (if (offP 0 3 s.lo || offP 0 3 s.hi) = true then (7 : Int) else if s.hi < s.lo then 2 else 0) = le at *
 generalize callsE h.ports s.calls = ce at *
 generalize fitE h.ports s = W at *
 simp only [harbA,harbL,shipA,shipL] at h1 h2 h3 ⊢
 (refine acall_intro (E := env fun _ => .imm) (envOk _) rfl Tryz.func14 rfl Tryz.call14 (by kernel_rfl) (by simp [Tryz.ntmps14]) ?_; simp only [Tryz.f14];  simp(maxSteps:=9^9)only[↓VP,VQ,seval])
 ((refine ACall.pure (h1) ?_; try simp(maxSteps:=9^9)only[↓VP,VQ,seval]); try simp(maxSteps:=9^9)only[↓VP,VQ,seval,GL])
 ((refine ACall.pure (h2) ?_; try simp(maxSteps:=9^9)only[↓VP,VQ,seval]); try simp(maxSteps:=9^9)only[↓VP,VQ,seval,GL])
 repeat'(first|intro _|apply And.intro)
 ·rw [e,if_pos (.inr (by assumption))]
 ·have q1 : ¬ le = 7 := by assumption
  have q2 : ¬ le = 0 := by assumption
  rw [e,if_neg (by simp [*]),if_pos q2]
 ·have q1 : ¬ le = 7 := by assumption
  have q2 : le = 0 := by omega
  ((refine ACall.pure (h3) ?_; try simp(maxSteps:=9^9)only[↓VP,VQ,seval]); try simp(maxSteps:=9^9)only[↓VP,VQ,seval,GL])
  rw [e,if_neg (by simp [*]),if_neg (by omega)]
 ·rw [e,if_pos (.inl (by (first | assumption | (rw [← Bool.not_eq_false]; assumption) | (rw [← Bool.not_eq_true]; assumption) | omega)))]
theorem letter_c (h : RHarb) (hp : portsFit h) (hs : h.ships.length ≤ 3) (x : RLet) : PCall Tryz.prog 15 [harbA h,letA x] (.int .i64 (letErr h.ports h.ships x)) := by
 intro m
 have h1 := port_c h hp x.port
 have h2 := in_o x.day 0 20
 have h3 := in_o x.ship (-1) ((h.ships.length : Int) - 1)
 have h4 := reftakes_c (h.ships[x.ship.toNat]!) x.port x.day
 have e : letErr h.ports h.ships x = if offP 0 (h.ports - 1) x.port = true then 4 else if offP 0 20 x.day = true then 7 else if offP (-1) ((h.ships.length : Int) - 1) x.ship = true then 4
  else if x.ship ≠ -1 ∧ takesB (h.ships[x.ship.toNat]!) x.port x.day = false then 2 else 0 := rfl
 have hof : ¬ offP (-1) ((h.ships.length : Int) - 1) x.ship = true → -1 ≤ x.ship ∧ x.ship ≤ (h.ships.length : Int) - 1 := fun q => by simp [offP] at q; omega
 generalize takesB (h.ships[x.ship.toNat]!) x.port x.day = tk at *
 simp only [harbA,harbL,letA,shipA,shipL] at h1 h2 h3 h4 ⊢
 (refine acall_intro (E := env fun _ => .imm) (envOk _) rfl Tryz.func15 rfl Tryz.call15 (by kernel_rfl) (by simp [Tryz.ntmps15]) ?_; simp only [Tryz.f15];  simp(maxSteps:=9^9)only[↓VP,VQ,seval])
 ((refine ACall.pure (h1) ?_; try simp(maxSteps:=9^9)only[↓VP,VQ,seval]); try simp(maxSteps:=9^9)only[↓VP,VQ,seval,GL])
 repeat'(first|intro _|apply And.intro)
 all_goals try first|omega|(simp only[LL];omega)|exact nlC (by decide) _|exact nbC rfl
 ·(first | (rw [e]; (repeat' split) <;> first | rfl | (exfalso; omega) | (exfalso; simp_all; done) | (exfalso; simp_all; omega)))
 ((refine ACall.pure (h2) ?_; try simp(maxSteps:=9^9)only[↓VP,VQ,seval]); try simp(maxSteps:=9^9)only[↓VP,VQ,seval,GL])
 repeat'(first|intro _|apply And.intro)
 all_goals try first|omega|(simp only[LL];omega)|exact nlC (by decide) _|exact nbC rfl
 ·(first | (rw [e]; (repeat' split) <;> first | rfl | (exfalso; omega) | (exfalso; simp_all; done) | (exfalso; simp_all; omega)))
 ((refine ACall.pure (h3) ?_; try simp(maxSteps:=9^9)only[↓VP,VQ,seval]); try simp(maxSteps:=9^9)only[↓VP,VQ,seval,GL])
 repeat'(first|intro _|apply And.intro)
 all_goals try first|omega|(simp only[LL];omega)|exact nlC (by decide) _|exact nbC rfl
 ·(first | (rw [e]; (repeat' split) <;> first | rfl | (exfalso; omega) | (exfalso; simp_all; done) | (exfalso; simp_all; omega)))
 (refine adraw (by first | exact envOk _ | exact envCOk _ _ _) mixed [⟨false,false,0⟩,⟨false,false,0⟩,⟨false,false,0⟩,⟨false,false,0⟩,⟨false,false,0⟩,⟨false,false,0⟩,⟨false,false,0⟩,⟨false,false,0⟩,⟨false,false,0⟩,⟨false,false,0⟩,⟨false,false,0⟩,⟨false,false,0⟩,⟨false,false,0⟩,⟨false,false,0⟩,⟨false,false,0⟩,⟨false,false,0⟩,⟨false,false,0⟩] (by kernel_rfl) ?_; show vcOpsD _ _ _ (_ :: _) _ _)
 simp(maxSteps:=9^9)only[↓VP,VQ,seval,↓shipA,shipL]
 repeat'(first|intro _|apply And.intro)
 all_goals try first|omega|(simp only[LL];omega)|exact nlC (by decide) _|exact nbC rfl
 ·have := hof (by assumption); omega
 ·have := hof (by assumption); omega
 ·refine VPure.of h4 ?_
  simp(maxSteps:=9^9)only[↓VP,VQ,seval]
  repeat'(first|intro _|apply And.intro)
  all_goals try first|omega|(simp only[LL];omega)|exact nlC (by decide) _|exact nbC rfl
  all_goals (first | (rw [e]; (repeat' split) <;> first | rfl | (exfalso; omega) | (exfalso; simp_all; done) | (exfalso; simp_all; omega)))
 all_goals (first | (rw [e]; (repeat' split) <;> first | rfl | (exfalso; omega) | (exfalso; simp_all; done) | (exfalso; simp_all; omega)))
theorem report_c (h : RHarb) (hp : portsFit h) (hs : h.ships.length ≤ 3) (hl : h.letters.length ≤ 4) (x : RRep) : PCall Tryz.prog 16 [harbA h,repA x] (.int .i64 (repErr h.ports h.ships.length h.letters.length x)) := by
 intro m
 obtain ⟨kind,of_,port,day⟩ := x
 have h1 := in_o kind 0 3
 have h2 := in_o of_ 0 ((h.ships.length : Int) - 1)
 have h2' := in_o of_ 0 ((h.letters.length : Int) - 1)
 have h3 := port_c h hp port
 have h4 := in_o day 0 60
 have e : repErr h.ports h.ships.length h.letters.length ⟨kind,of_,port,day⟩ = if offP 0 3 kind = true then 7 else if (offP 0 ((if kind < 2 then (h.ships.length : Int) else h.letters.length) - 1) of_ || offP 0 (h.ports - 1) port) = true then 4
  else if 2 ≤ kind ∧ port ≠ 0 then 2 else if offP 0 60 day = true then 7 else 0 := rfl
 by_cases hk : kind < 2
 ·rw [if_pos hk] at e
  simp only [harbA,harbL,repA] at *
  (refine acall_intro (E := env fun _ => .imm) (envOk _) rfl Tryz.func16 rfl Tryz.call16 (by kernel_rfl) (by simp [Tryz.ntmps16]) ?_; simp only [Tryz.f16];  simp(maxSteps:=9^9)only[↓VP,VQ,seval])
  (repeat' (first | intro _ | refine And.intro ?_ ?_ | ((refine ACall.pure (by with_reducible assumption) ?_; try simp(maxSteps:=9^9)only[↓VP,VQ,seval]); try simp(maxSteps:=9^9)only[↓VP,VQ,seval,GL]) | (refine VPure.of (by with_reducible assumption) ?_; try simp(maxSteps:=9^9)only[↓VP,VQ,seval,GL])))
  all_goals try first|omega|(simp only[LL];omega)|exact nlC (by decide) _|exact nbC rfl
  all_goals (first | (rw [e]; (repeat' split) <;> first | rfl | (exfalso; omega) | (exfalso; simp_all; done) | (exfalso; simp_all; omega)))
 ·rw [if_neg hk] at e
  simp only [harbA,harbL,repA] at *
  (refine acall_intro (E := env fun _ => .imm) (envOk _) rfl Tryz.func16 rfl Tryz.call16 (by kernel_rfl) (by simp [Tryz.ntmps16]) ?_; simp only [Tryz.f16];  simp(maxSteps:=9^9)only[↓VP,VQ,seval])
  (repeat' (first | intro _ | refine And.intro ?_ ?_ | ((refine ACall.pure (by with_reducible assumption) ?_; try simp(maxSteps:=9^9)only[↓VP,VQ,seval]); try simp(maxSteps:=9^9)only[↓VP,VQ,seval,GL]) | (refine VPure.of (by with_reducible assumption) ?_; try simp(maxSteps:=9^9)only[↓VP,VQ,seval,GL])))
  all_goals try first|omega|(simp only[LL];omega)|exact nlC (by decide) _|exact nbC rfl
  all_goals (first | (rw [e]; (repeat' split) <;> first | rfl | (exfalso; omega) | (exfalso; simp_all; done) | (exfalso; simp_all; omega)))
theorem ixShip (l : List RShip) (i : Int) (K : AV → Prop) : VIdx (l.map shipA) i K ↔ (0 ≤ i ∧ i.toNat < l.length) ∧ K (.agg [.str (l[i.toNat]!).name,.int .i64 (l[i.toNat]!).sails,.slice 2 ((l[i.toNat]!).calls.map callA),.int .i64 (l[i.toNat]!).lo,.int .i64 (l[i.toNat]!).hi]) := VIdx_map shipA l i K
theorem ixCall (l : List RCall) (i : Int) (K : AV → Prop) : VIdx (l.map callA) i K ↔ (0 ≤ i ∧ i.toNat < l.length) ∧ K (.agg [.int .i64 (l[i.toNat]!).port,.int .i64 (l[i.toNat]!).after]) := VIdx_map callA l i K
theorem ixLet (l : List RLet) (i : Int) (K : AV → Prop) : VIdx (l.map letA) i K ↔ (0 ≤ i ∧ i.toNat < l.length) ∧ K (.agg [.int .i64 (l[i.toNat]!).port,.int .i64 (l[i.toNat]!).day,.int .i64 (l[i.toNat]!).ship]) := VIdx_map letA l i K
theorem ixRep (l : List RRep) (i : Int) (K : AV → Prop) : VIdx (l.map repA) i K ↔ (0 ≤ i ∧ i.toNat < l.length) ∧ K (.agg [.int .i64 (l[i.toNat]!).kind,.int .i64 (l[i.toNat]!).of_,.int .i64 (l[i.toNat]!).port,.int .i64 (l[i.toNat]!).day]) := VIdx_map repA l i K
theorem VX : type_of% (And.intro VP <| And.intro @ixShip <| And.intro @ixCall <| And.intro @ixLet @ixRep) := And.intro VP <| And.intro @ixShip <| And.intro @ixCall <| And.intro @ixLet @ixRep
theorem any_names (l : List RShip) (n : ByteArray) : (l.map RShip.name).any (fun x => decide (x = n)) = l.any fun x => decide (x.name = n) := by
 rw [List.any_map]; rfl
theorem refcheck_c (h : RHarb) (hs : hnamesFit h) : PCall Tryz.prog 4 [harbA h] (.tuple [.int .i64 (checkH h).1,.int .i64 (checkH h).2.1,.int .i64 (checkH h).2.2]) := by
 have hc1 := in_o h.ports 1 4
 have hc2 := in_o h.lost 0 3
 intro m
 by_cases h0 : (offP 1 4 h.ports || offP 0 3 h.lost) = true
 ·rw [checkH_first h0]
  simp only [harbA,harbL]
  cases h1 : offP 1 4 h.ports
  ·cases h2 : offP 0 3 h.lost
   ·simp [h1,h2] at h0
   ·rw [h1] at hc1; rw [h2] at hc2
    (refine acall_intro (E := env fun _ => .imm) (envOk _) rfl Tryz.func4 rfl Tryz.call4 (by kernel_rfl) (by simp [Tryz.ntmps4]) ?_; simp only [Tryz.f4];  simp(maxSteps:=9^9)only[↓VX,VQ,seval])
    ((refine ACall.pure (hc1) ?_; try simp(maxSteps:=9^9)only[↓VX,VQ,seval]); try simp(maxSteps:=9^9)only[↓VX,VQ,seval,GL])
    ((refine ACall.pure (hc2) ?_; try simp(maxSteps:=9^9)only[↓VX,VQ,seval]); try simp(maxSteps:=9^9)only[↓VX,VQ,seval,GL])
  ·rw [h1] at hc1
   (refine acall_intro (E := env fun _ => .imm) (envOk _) rfl Tryz.func4 rfl Tryz.call4 (by kernel_rfl) (by simp [Tryz.ntmps4]) ?_; simp only [Tryz.f4];  simp(maxSteps:=9^9)only[↓VX,VQ,seval])
   ((refine ACall.pure (hc1) ?_; try simp(maxSteps:=9^9)only[↓VX,VQ,seval]); try simp(maxSteps:=9^9)only[↓VX,VQ,seval,GL])
 ·have h1 : offP 1 4 h.ports = false := by revert h0; cases offP 1 4 h.ports <;> simp
  have h2 : offP 0 3 h.lost = false := by revert h0; cases offP 0 3 h.lost <;> simp
  rw [h1] at hc1; rw [h2] at hc2
  have hp : portsFit h := by unfold portsFit; simp [offP] at h1; omega
  have hf1 := fun (s : RShip) (q : s.name.size ≤ 9223372036854775807) (k : Nat) => fresh_c s.name ((h.ships.take k).map RShip.name) q
  have hf2 := fun (s : RShip) => refship_c h hp s
  have hf3 := fun (q : h.ships.length ≤ 3) (x : RLet) => letter_c h hp q x
  have hf4 := fun (q : h.ships.length ≤ 3) (q2 : h.letters.length ≤ 4) (x : RRep) => report_c h hp q q2 x
  have e : checkH h = if 3 < h.ships.length then (2,0,3)
    else if (shipsE h).2 ≠ 0 then (2,(shipsE h).1,(shipsE h).2)
    else if 4 < h.letters.length then (3,0,3)
    else if (lettersE h).2 ≠ 0 then (3,(lettersE h).1,(lettersE h).2)
    else if 5 < h.reports.length then (4,0,3)
    else if (reportsE h).2 ≠ 0 then (4,(reportsE h).1,(reportsE h).2)
    else (0,0,0) := by unfold checkH; rw [if_neg h0]
  generalize checkH h = W at *
  simp only [harbA,harbL,strs] at *
  (refine acall_intro (E := envC (fun _ => .imm) false [9]) (envCOk _ _ _) rfl Tryz.func4 rfl Tryz.call4 (by kernel_rfl) (by simp [Tryz.ntmps4]) ?_; simp only [Tryz.f4];  simp(maxSteps:=9^9)only[↓VX,VQ,seval])
  ((refine ACall.pure (hc1) ?_; try simp(maxSteps:=9^9)only[↓VX,VQ,seval]); try simp(maxSteps:=9^9)only[↓VX,VQ,seval,GL])
  ((refine ACall.pure (hc2) ?_; try simp(maxSteps:=9^9)only[↓VX,VQ,seval]); try simp(maxSteps:=9^9)only[↓VX,VQ,seval,GL])
  repeat'(first|intro _|apply And.intro)
  ·rw [e,if_pos (by omega)]
  have h4 : ¬ 3 < h.ships.length := by omega
  rw [if_neg h4] at e
  refine aloop (envCOk _ _ _) (fun k : Nat => ⟨[(1,.v (.eptr [.int .i64 h.ports,.int .i64 h.lost,.slice 5 (h.ships.map shipA),.slice 3 (h.letters.map letA),.slice 4 (h.reports.map repA)])),(5,.v (.slice 1 (((h.ships.take k).map RShip.name).map AV.str))),(6,.v (.int .i64 k))],[5],[],m⟩)
   (fun k => k ≤ h.ships.length ∧ failFrom (shipErr h.ports h.ships) k (h.ships.drop k) = shipsE h) (fun k => h.ships.length - k) 0 (fun _ => rfl) ⟨by omega,by simp [shipsE]⟩ (by (simp only [FE,↓FP,seval]); try simp) ?_
  rintro k ⟨hk,hf⟩
  simp(maxSteps:=9^9)only[↓VX,VQ,seval]
  repeat'(first|intro _|apply And.intro)
  all_goals try first|omega|(simp only[LL];omega)|exact nlC (by decide) _|exact nbC rfl
  ·have hlt : k < h.ships.length := by omega
   have e1 : h.ships[k]! = h.ships[k] := getD_any hlt
   have hsz : (h.ships[k]!).name.size ≤ 9223372036854775807 := hs _ (by rw [e1]; exact List.getElem_mem hlt)
   rw [List.drop_eq_getElem_cons hlt] at hf
   have hfr := hf1 (h.ships[k]!) hsz k
   have hsh := hf2 (h.ships[k]!)
   simp only [shipA,shipL] at hsh
   have es : shipErr h.ports h.ships k h.ships[k] = if nameB (h.ships[k]!).name = true then (if (h.ships.take k).any (fun x => decide (x.name = (h.ships[k]!).name)) = true then 5 else fitE h.ports (h.ships[k]!)) else 6 := by rw [e1]; rfl
   rw [any_names] at hfr
   have htk : (h.ships.take (k + 1)).map RShip.name = (h.ships.take k).map RShip.name ++ [(h.ships[k]!).name] := by rw [e1,List.take_succ_eq_append_getElem hlt,List.map_append]; rfl
   generalize fitE h.ports (h.ships[k]!) = fe at *
   generalize (h.ships.take k).any (fun x => decide (x.name = (h.ships[k]!).name)) = tw at *
   have hit : shipErr h.ports h.ships k h.ships[k] ≠ 0 → shipsE h = ((k : Int),shipErr h.ports h.ships k h.ships[k]) := fun q => by rw [← hf,failFrom_hit q]
   generalize hse0 : shipErr h.ports h.ships k h.ships[k] = se at *
   have hnl : ((h.ships.take k).map RShip.name).length ≤ 3 := by rw [List.length_map,List.length_take]; omega
   refine acut_keep_at 6 (envCOk _ _ _) rfl rfl rfl (fun (_ : Unit) => ⟨[(1,.v (.eptr [.int .i64 h.ports,.int .i64 h.lost,.slice 5 (h.ships.map shipA),.slice 3 (h.letters.map letA),.slice 4 (h.reports.map repA)])),(5,.v (.slice 1 (((h.ships.take k).map RShip.name).map AV.str))),(6,.v (.int .i64 k)),(7,.v (.int .i64 (if nameB (h.ships[k]!).name = true then (if tw = true then 5 else 0) else 6)))],[5],[],m⟩) (fun _ => True) (fun _ => rfl) ?_ ?_
   ·show vcOps _ _ (_ :: _) _ _
    simp(maxSteps:=9^9)only[↓VX,VQ,seval,List.take_succ_cons,List.take_zero,SV.refs,not_false_eq_true,implies_true]
    repeat'(first|intro _|apply And.intro)
    all_goals try first|omega|(simp only[LL];omega)|exact nlC (by decide) _|exact nbC rfl
    ((refine ACall.pure (hfr) ?_; try simp(maxSteps:=9^9)only[↓VX,VQ,seval]); try simp(maxSteps:=9^9)only[↓VX,VQ,seval,GL])
    exact ⟨(),by (simp only [FE,↓FP,seval])⟩
   intro _ _
   have hnl2 : (List.take k h.ships).length ≤ 3 := by rw [List.length_take]; omega
   generalize hfe : (if nameB (h.ships[k]!).name = true then (if tw = true then (5 : Int) else 0) else 6) = fr at *
   simp(maxSteps:=9^9)only[↓VX,VQ,seval]
   repeat'(first|intro _|apply And.intro)
   all_goals try first|omega|(simp only[LL];omega)|exact nlC (by decide) _|exact nbC rfl
   ·have q : fr = 0 := by assumption
    have hfr0 : nameB (h.ships[k]!).name = true ∧ ¬ tw = true := by
     rw [q] at hfe
     split at hfe
     ·split at hfe
      ·cases hfe
      ·exact ⟨by assumption,by assumption⟩
     ·cases hfe
    rw [if_pos hfr0.1,if_neg hfr0.2] at es
    (refine adraw (by first | exact envOk _ | exact envCOk _ _ _) mixed [⟨false,false,0⟩,⟨false,false,0⟩,⟨false,false,0⟩,⟨false,false,0⟩,⟨false,false,0⟩,⟨false,false,0⟩,⟨false,false,0⟩,⟨false,false,0⟩] (by kernel_rfl) ?_; show vcOpsD _ _ _ (_ :: _) _ _)
    simp(maxSteps:=9^9)only[↓VX,VQ,seval]
    repeat'(first|intro _|apply And.intro)
    all_goals try first|omega|(simp only[LL];omega)|exact nlC (by decide) _|exact nbC rfl
    (refine ⟨_,.inl (hsh),?_⟩; try simp(maxSteps:=9^9)only[↓VX,VQ,seval])
    repeat'(first|intro _|apply And.intro)
    all_goals try first|omega|(simp only[LL];omega)|exact nlC (by decide) _|exact nbC rfl
    ·have q2 : fe ≠ 0 := by assumption
     have hh := hit (by rw [es]; exact q2)
     rw [hh,es,if_pos q2] at e
     rw [e]
    ·have q2 : ¬ fe ≠ 0 := by omega
     rw [failFrom_skip (by rw [hse0,es]; exact q2)] at hf
     refine ⟨k + 1,⟨by omega,hf⟩,by dsimp only; omega,?_⟩
     (simp only [FE,↓FP,seval])
     rw [htk]
     simp
   ·have q : ¬ fr = 0 := by assumption
    have hes : se = fr := by
     rw [es,← hfe]
     split
     ·split
      ·rfl
      ·rename_i q1 q2
       rw [if_pos q1,if_neg q2] at hfe
       exact absurd hfe.symm q
     ·rfl
    have hh := hit (by rw [hes]; exact q)
    rw [hh,hes,if_pos q] at e
    rw [e]
  ·have hke : k = h.ships.length := by omega
   rw [List.drop_eq_nil_of_le (by omega)] at hf
   have hse : shipsE h = (0,0) := hf.symm
   rw [hse,if_neg (by decide)] at e
   rw [e,if_pos (by omega)]
  have hke : k = h.ships.length := by omega
  rw [List.drop_eq_nil_of_le (by omega)] at hf
  have hse : shipsE h = (0,0) := hf.symm
  have h6 : ¬ 4 < h.letters.length := by omega
  rw [hse,if_neg (by decide),if_neg h6] at e
  clear hf hse
  refine aloop (envCOk _ _ _) (fun k : Nat => ⟨[(1,.v (.eptr [.int .i64 h.ports,.int .i64 h.lost,.slice 5 (h.ships.map shipA),.slice 3 (h.letters.map letA),.slice 4 (h.reports.map repA)])),(8,.v (.int .i64 k))],[],[],m⟩)
   (fun k => k ≤ h.letters.length ∧ failFrom (fun _ => letErr h.ports h.ships) k (h.letters.drop k) = lettersE h) (fun k => h.letters.length - k) 0 (fun _ => rfl) ⟨by omega,by simp [lettersE]⟩ (by (simp only [FE,↓FP,seval]); try simp) ?_
  clear hk hke
  rintro j ⟨hj,hf⟩
  simp(maxSteps:=9^9)only[↓VX,VQ,seval]
  repeat'(first|intro _|apply And.intro)
  all_goals try first|omega|(simp only[LL];omega)|exact nlC (by decide) _|exact nbC rfl
  ·have hlt : j < h.letters.length := by omega
   have e1 : h.letters[j]! = h.letters[j] := getD_any hlt
   rw [List.drop_eq_getElem_cons hlt] at hf
   have hl := hf3 (by omega) (h.letters[j]!)
   simp only [letA] at hl
   have hit : letErr h.ports h.ships h.letters[j] ≠ 0 → lettersE h = ((j : Int),letErr h.ports h.ships h.letters[j]) := fun q => by rw [← hf,failFrom_hit q]
   rw [e1] at hl
   generalize hle : letErr h.ports h.ships h.letters[j] = le at *
   (refine adraw (by first | exact envOk _ | exact envCOk _ _ _) mixed [⟨false,false,0⟩,⟨false,false,0⟩,⟨false,false,0⟩,⟨false,false,0⟩,⟨false,false,0⟩,⟨false,false,0⟩,⟨false,false,0⟩,⟨false,false,0⟩] (by kernel_rfl) ?_; show vcOpsD _ _ _ (_ :: _) _ _)
   simp(maxSteps:=9^9)only[↓VX,VQ,seval]
   repeat'(first|intro _|apply And.intro)
   all_goals try first|omega|(simp only[LL];omega)|exact nlC (by decide) _|exact nbC rfl
   rw [← e1] at hl
   (refine ⟨_,.inl (hl),?_⟩; try simp(maxSteps:=9^9)only[↓VX,VQ,seval])
   repeat'(first|intro _|apply And.intro)
   all_goals try first|omega|(simp only[LL];omega)|exact nlC (by decide) _|exact nbC rfl
   ·have q : le ≠ 0 := by assumption
    have hh := hit q
    rw [hh,if_pos q] at e
    rw [e]
   ·have q : ¬ le ≠ 0 := by omega
    rw [failFrom_skip (by show ¬ letErr h.ports h.ships h.letters[j] ≠ 0; rw [hle]; exact q)] at hf
    refine ⟨j + 1,⟨by omega,hf⟩,by dsimp only; omega,?_⟩
    (simp only [FE,↓FP,seval])
    simp
  ·have hke : j = h.letters.length := by omega
   rw [List.drop_eq_nil_of_le (by omega)] at hf
   have hse : lettersE h = (0,0) := hf.symm
   rw [hse,if_neg (by decide)] at e
   rw [e,if_pos (by omega)]
  have hke : j = h.letters.length := by omega
  rw [List.drop_eq_nil_of_le (by omega)] at hf
  have hse : lettersE h = (0,0) := hf.symm
  have h8 : ¬ 5 < h.reports.length := by omega
  rw [hse,if_neg (by decide),if_neg h8] at e
  clear hf hse
  refine aloop (envCOk _ _ _) (fun k : Nat => ⟨[(1,.v (.eptr [.int .i64 h.ports,.int .i64 h.lost,.slice 5 (h.ships.map shipA),.slice 3 (h.letters.map letA),.slice 4 (h.reports.map repA)])),(10,.v (.int .i64 k))],[],[],m⟩)
   (fun k => k ≤ h.reports.length ∧ failFrom (fun _ => repErr h.ports h.ships.length h.letters.length) k (h.reports.drop k) = reportsE h) (fun k => h.reports.length - k) 0 (fun _ => rfl) ⟨by omega,by simp [reportsE]⟩ (by (simp only [FE,↓FP,seval]); try simp) ?_
  clear hj hke
  rintro j ⟨hj,hf⟩
  simp(maxSteps:=9^9)only[↓VX,VQ,seval]
  repeat'(first|intro _|apply And.intro)
  all_goals try first|omega|(simp only[LL];omega)|exact nlC (by decide) _|exact nbC rfl
  ·have hlt : j < h.reports.length := by omega
   have e1 : h.reports[j]! = h.reports[j] := getD_any hlt
   rw [List.drop_eq_getElem_cons hlt] at hf
   have hl := hf4 (by omega) (by omega) (h.reports[j]!)
   simp only [repA] at hl
   have hit : repErr h.ports h.ships.length h.letters.length h.reports[j] ≠ 0 → reportsE h = ((j : Int),repErr h.ports h.ships.length h.letters.length h.reports[j]) := fun q => by rw [← hf,failFrom_hit q]
   rw [e1] at hl
   generalize hle : repErr h.ports h.ships.length h.letters.length h.reports[j] = le at *
   (refine adraw (by first | exact envOk _ | exact envCOk _ _ _) mixed [⟨false,false,0⟩,⟨false,false,0⟩,⟨false,false,0⟩,⟨false,false,0⟩,⟨false,false,0⟩,⟨false,false,0⟩,⟨false,false,0⟩,⟨false,false,0⟩] (by kernel_rfl) ?_; show vcOpsD _ _ _ (_ :: _) _ _)
   simp(maxSteps:=9^9)only[↓VX,VQ,seval]
   repeat'(first|intro _|apply And.intro)
   all_goals try first|omega|(simp only[LL];omega)|exact nlC (by decide) _|exact nbC rfl
   rw [← e1] at hl
   (refine ⟨_,.inl (hl),?_⟩; try simp(maxSteps:=9^9)only[↓VX,VQ,seval])
   repeat'(first|intro _|apply And.intro)
   all_goals try first|omega|(simp only[LL];omega)|exact nlC (by decide) _|exact nbC rfl
   ·have q : le ≠ 0 := by assumption
    have hh := hit q
    rw [hh,if_pos q] at e
    rw [e]
   ·have q : ¬ le ≠ 0 := by omega
    rw [failFrom_skip (by show ¬ repErr h.ports h.ships.length h.letters.length h.reports[j] ≠ 0; rw [hle]; exact q)] at hf
    refine ⟨j + 1,⟨by omega,hf⟩,by dsimp only; omega,?_⟩
    (simp only [FE,↓FP,seval])
    simp
  ·have hke : j = h.reports.length := by omega
   rw [List.drop_eq_nil_of_le (by omega)] at hf
   have hse : reportsE h = (0,0) := hf.symm
   rw [hse,if_neg (by decide)] at e
   rw [e]
structure Fate where
 late : Int
 made : Int
deriving Inhabited,DecidableEq
def lateL (s : RShip) : List Int := (List.range (s.hi - s.lo + 1).toNat).map fun (i : Nat) => s.lo + i
def madeL (s : RShip) : List Int := (List.range (s.calls.length + 1)).map fun (i : Nat) => (i : Int)
def sinksI (s : RShip) (made : Int) : Int := if made < s.calls.length then 1 else 0
def fleetsI : List RShip → Int → List (List Fate)
 | [],_ => [[]]
 | s :: r,left => (madeL s).flatMap fun made => if sinksI s made ≤ left then (lateL s).flatMap fun late => (fleetsI r (left - sinksI s made)).map (Fate.mk late made :: ·) else []
def stepR (out : List (List Fate)) (s : RShip) : List (List Fate) := out.flatMap fun f => (lateL s).flatMap fun late => (madeL s).map fun made => f ++ [Fate.mk late made]
def allR (l : List RShip) : List (List Fate) := l.foldl stepR [[]]
def fokB : List RShip → List Fate → Bool
 | [],[] => true
 | s :: r,x :: f => (decide (s.lo ≤ x.late ∧ x.late ≤ s.hi) && decide (0 ≤ x.made ∧ x.made ≤ s.calls.length)) && fokB r f
 | _,_ => false
def lostN : List RShip → List Fate → Int
 | s :: r,x :: f => sinksI s x.made + lostN r f
 | _,_ => 0
def fleetsR (l : List RShip) (lost : Int) : List (List Fate) := (allR l).filter fun f => decide (lostN l f ≤ lost)
theorem mem_lateL {s : RShip} {x : Int} : x ∈ lateL s ↔ s.lo ≤ x ∧ x ≤ s.hi := by
 simp only [lateL,List.mem_map,List.mem_range]
 constructor
 ·rintro ⟨i,h,rfl⟩; omega
 ·rintro ⟨h1,h2⟩; exact ⟨(x - s.lo).toNat,by omega,by omega⟩
theorem mem_madeL {s : RShip} {x : Int} : x ∈ madeL s ↔ 0 ≤ x ∧ x ≤ s.calls.length := by
 simp only [madeL,List.mem_map,List.mem_range]
 constructor
 ·rintro ⟨i,h,rfl⟩; omega
 ·rintro ⟨h1,h2⟩; exact ⟨x.toNat,by omega,by omega⟩
theorem sinks_cases (s : RShip) (made : Int) : sinksI s made = 0 ∨ sinksI s made = 1 := by unfold sinksI; split <;> simp
theorem lostN_nonneg : ∀ (l : List RShip) (f : List Fate),0 ≤ lostN l f
 | [],f => by cases f <;> simp [lostN]
 | _ :: _,[] => by simp [lostN]
 | s :: r,x :: f => by
  have h1 := lostN_nonneg r f
  have h2 := sinks_cases s x.made
  simp only [lostN]; omega
theorem mem_fleetsI : ∀ {l : List RShip} {left : Int} {f : List Fate},0 ≤ left → (f ∈ fleetsI l left ↔ fokB l f = true ∧ lostN l f ≤ left)
 | [],left,f,h => by
  cases f with
  | nil => simp [fleetsI,fokB,lostN,h]
  | cons x f => simp [fleetsI,fokB]
 | s :: r,left,f,h => by
  have hs := fun made => sinks_cases s made
  simp only [fleetsI,List.mem_flatMap]
  constructor
  ·rintro ⟨made,hm,hf⟩
   split at hf
   ·rename_i hle
    simp only [List.mem_flatMap,List.mem_map] at hf
    obtain ⟨late,hl,g,hg,rfl⟩ := hf
    rw [mem_fleetsI (by have := hs made; omega)] at hg
    rw [mem_lateL] at hl
    rw [mem_madeL] at hm
    simp only [fokB,lostN,Bool.and_eq_true,decide_eq_true_eq]
    exact ⟨⟨⟨hl,hm⟩,hg.1⟩,by omega⟩
   ·simp at hf
  ·rintro ⟨h1,h2⟩
   cases f with
   | nil => simp [fokB] at h1
   | cons x f =>
    simp only [fokB,lostN,Bool.and_eq_true,decide_eq_true_eq] at h1 h2
    have h3 := lostN_nonneg r f
    refine ⟨x.made,mem_madeL.2 h1.1.2,?_⟩
    rw [if_pos (by omega)]
    simp only [List.mem_flatMap,List.mem_map]
    exact ⟨x.late,mem_lateL.2 h1.1.1,f,(mem_fleetsI (by have := hs x.made; omega)).2 ⟨h1.2,by omega⟩,rfl⟩
theorem fok_append : ∀ {l : List RShip} {_f : List Fate} {s : RShip} {g : List Fate},fokB (l ++ [s]) g = true ↔ ∃ (f : List Fate) (x : Fate),g = f ++ [x] ∧ fokB l f = true ∧ (s.lo ≤ x.late ∧ x.late ≤ s.hi) ∧ (0 ≤ x.made ∧ x.made ≤ (s.calls.length : Int))
 | [],_,s,g => by
  constructor
  ·intro h
   match g,h with
   | [x],h => simp [fokB] at h; exact ⟨[],x,rfl,rfl,h.1,h.2⟩
   | [],h => simp [fokB] at h
   | _ :: _ :: _,h => simp [fokB] at h
  ·rintro ⟨f,x,rfl,h1,h2,h3⟩
   cases f with
   | nil => simp [fokB,h2,h3]
   | cons y f => simp [fokB] at h1
 | t :: l,f0,s,g => by
  constructor
  ·intro h
   match g,h with
   | y :: g,h =>
    simp only [List.cons_append,fokB,Bool.and_eq_true] at h
    obtain ⟨f,x,rfl,h1,h2,h3⟩ := (fok_append (l := l) (_f := f0)).1 h.2
    exact ⟨y :: f,x,rfl,by simp only [fokB,Bool.and_eq_true]; exact ⟨h.1,h1⟩,h2,h3⟩
   | [],h => simp [fokB] at h
  ·rintro ⟨f,x,rfl,h1,h2,h3⟩
   cases f with
   | nil => simp [fokB] at h1
   | cons y f =>
    simp only [fokB,Bool.and_eq_true] at h1
    simp only [List.cons_append,fokB,Bool.and_eq_true]
    exact ⟨h1.1,(fok_append (l := l) (_f := f0)).2 ⟨f,x,rfl,h1.2,h2,h3⟩⟩
theorem mem_foldR : ∀ (r l : List RShip) (out : List (List Fate)),(∀ f,f ∈ out ↔ fokB l f = true) → ∀ f,f ∈ r.foldl stepR out ↔ fokB (l ++ r) f = true
 | [],l,out,h,f => by simpa using h f
 | s :: r,l,out,h,f => by
  have := mem_foldR r (l ++ [s]) (stepR out s) (fun g => by
   rw [fok_append (_f := [])]
   simp only [stepR,List.mem_flatMap,List.mem_map]
   constructor
   ·rintro ⟨f,hf,late,hl,made,hm,rfl⟩
    exact ⟨f,_,rfl,(h f).1 hf,mem_lateL.1 hl,mem_madeL.1 hm⟩
   ·rintro ⟨f,x,rfl,h1,h2,h3⟩
    exact ⟨f,(h f).2 h1,x.late,mem_lateL.2 h2,x.made,mem_madeL.2 h3,rfl⟩) f
  simpa using this
theorem mem_allR (l : List RShip) (f : List Fate) : f ∈ allR l ↔ fokB l f = true := by
 have := mem_foldR l [] [[]] (fun g => by cases g <;> simp [fokB]) f
 simpa [allR] using this
theorem mem_fleetsR {l : List RShip} {lost : Int} {f : List Fate} : f ∈ fleetsR l lost ↔ fokB l f = true ∧ lostN l f ≤ lost := by
 unfold fleetsR
 rw [List.mem_filter,mem_allR,decide_eq_true_eq]
theorem mem_fleets {l : List RShip} {lost : Int} (h : 0 ≤ lost) {f : List Fate} : f ∈ fleetsI l lost ↔ f ∈ fleetsR l lost := by
 rw [mem_fleetsI h,mem_fleetsR]
structure SOk (ports : Int) (s : RShip) : Prop where
 sails : 0 ≤ s.sails ∧ s.sails ≤ 20
 late : 0 ≤ s.lo ∧ s.lo ≤ s.hi ∧ s.hi ≤ 3
 n : s.calls.length ≤ 3
 call : ∀ i (_ : i < s.calls.length),(0 ≤ (s.calls[i]!).port ∧ (s.calls[i]!).port ≤ ports - 1) ∧ (1 ≤ (s.calls[i]!).after ∧ (s.calls[i]!).after ≤ 20) ∧ atC s.calls (s.calls[i]!).port = i
structure HOk (h : RHarb) : Prop where
 p : 1 ≤ h.ports ∧ h.ports ≤ 4
 l : 0 ≤ h.lost ∧ h.lost ≤ 3
 n : h.ships.length ≤ 3
 ship : ∀ i (_ : i < h.ships.length),SOk h.ports (h.ships[i]!)
 nl : h.letters.length ≤ 4
 letter : ∀ i (_ : i < h.letters.length),(0 ≤ (h.letters[i]!).port ∧ (h.letters[i]!).port ≤ h.ports - 1) ∧ (0 ≤ (h.letters[i]!).day ∧ (h.letters[i]!).day ≤ 20) ∧ (-1 ≤ (h.letters[i]!).ship ∧ (h.letters[i]!).ship ≤ (h.ships.length : Int) - 1)
 nr : h.reports.length ≤ 5
 report : ∀ i (_ : i < h.reports.length),(0 ≤ (h.reports[i]!).kind ∧ (h.reports[i]!).kind ≤ 3) ∧ (0 ≤ (h.reports[i]!).of_ ∧ (h.reports[i]!).of_ ≤ ((if (h.reports[i]!).kind < 2 then (h.ships.length : Int) else h.letters.length) - 1)) ∧
  (0 ≤ (h.reports[i]!).port ∧ (h.reports[i]!).port ≤ h.ports - 1) ∧ (0 ≤ (h.reports[i]!).day ∧ (h.reports[i]!).day ≤ 60)
theorem checkH_parts {h : RHarb} (e : (checkH h).2.2 = 0) : (offP 1 4 h.ports || offP 0 3 h.lost) = false ∧ h.ships.length ≤ 3 ∧ (shipsE h).2 = 0 ∧ h.letters.length ≤ 4 ∧ (lettersE h).2 = 0 ∧ h.reports.length ≤ 5 ∧ (reportsE h).2 = 0 := by
 unfold checkH at e
 split at e
 ·cases e
 ·rename_i h1
  split at e
  ·cases e
  ·rename_i h2
   split at e
   ·rename_i h3; exact absurd e h3
   ·rename_i h3
    split at e
    ·cases e
    ·rename_i h4
     split at e
     ·rename_i h5; exact absurd e h5
     ·rename_i h5
      split at e
      ·cases e
      ·rename_i h6
       split at e
       ·rename_i h7; exact absurd e h7
       ·rename_i h7
        exact ⟨by simpa using h1,by omega,by simpa using h3,by omega,by simpa using h5,by omega,by simpa using h7⟩
theorem atC_lt {l : List RCall} {i : Nat} (h : i < l.length) : atC l (l[i]!).port ≤ i := by
 unfold atC
 rcases idxL_cases (fun c : RCall => decide (c.port = (l[i]!).port)) l with e | ⟨k,hk,e⟩
 ·rw [e]; omega
 ·rw [e]
  apply Decidable.byContradiction; intro hlt
  have hlt' : i < k := by omega
  have h1 : idxL (fun c : RCall => decide (c.port = (l[i]!).port)) l = i ∨ idxL (fun c : RCall => decide (c.port = (l[i]!).port)) l < i := by
   clear e hlt hlt' hk
   have key : ∀ (l : List RCall) (i : Nat) (p : RCall → Bool) (h : i < l.length),p l[i] = true → idxL p l ≤ i := by
    intro l
    induction l with
    | nil => intro i p h; simp at h
    | cons x l ih =>
     intro i p h hp
     unfold idxL
     by_cases hx : p x = true
     ·rw [if_pos hx]; omega
     ·cases i with
      | zero => simp at hp; exact absurd hp hx
      | succ i =>
       have := ih i p (by simpa using h) (by simpa using hp)
       rw [if_neg hx]
       split
       ·omega
       ·omega
   have := key l i (fun c : RCall => decide (c.port = (l[i]!).port)) h (by rw [← getD_any h]; exact decide_eq_true rfl)
   omega
  omega
theorem sok_fit {ports : Int} {s : RShip} (e : fitE ports s = 0) : SOk ports s := by
 unfold fitE at e
 split at e
 ·cases e
 ·rename_i h1
  split at e
  ·cases e
  ·rename_i h2
   split at e
   ·cases e
   ·rename_i h3
    rw [failFrom_zero] at e
    simp only [Bool.or_eq_true,not_or,Bool.not_eq_true,offP_false] at h1
    refine ⟨h1.1,⟨h1.2.1.1,by omega,h1.2.2.2⟩,by omega,fun i hi => ?_⟩
    have := e i hi
    rw [← getD_any hi,Nat.zero_add] at this
    unfold callErr at this
    split at this
    ·cases this
    ·rename_i q1
     split at this
     ·cases this
     ·rename_i q2
      split at this
      ·cases this
      ·rename_i q3
       rw [Bool.not_eq_true,offP_false] at q1 q3
       have := atC_lt hi
       exact ⟨q1,q3,by omega⟩
theorem hok_check {h : RHarb} (e : (checkH h).2.2 = 0) : HOk h := by
 obtain ⟨h1,h2,h3,h4,h5,h6,h7⟩ := checkH_parts e
 simp only [Bool.or_eq_false_iff,offP_false] at h1
 unfold shipsE at h3
 unfold lettersE at h5
 unfold reportsE at h7
 rw [failFrom_zero] at h3 h5 h7
 refine ⟨h1.1,h1.2,h2,fun i hi => ?_,h4,fun i hi => ?_,h6,fun i hi => ?_⟩
 ·have := h3 i hi
  rw [← getD_any hi,Nat.zero_add] at this
  unfold shipErr at this
  split at this
  ·split at this
   ·cases this
   ·exact sok_fit this
  ·cases this
 ·have := h5 i hi
  rw [← getD_any hi] at this
  unfold letErr at this
  split at this
  ·cases this
  ·rename_i q1
   split at this
   ·cases this
   ·rename_i q2
    split at this
    ·cases this
    ·rename_i q3
     rw [Bool.not_eq_true,offP_false] at q1 q2 q3
     exact ⟨q1,q2,q3⟩
 ·have := h7 i hi
  rw [← getD_any hi] at this
  unfold repErr at this
  generalize (if (h.reports[i]!).kind < 2 then (h.ships.length : Int) else h.letters.length) = cnt at this ⊢
  split at this
  ·cases this
  ·rename_i q1
   split at this
   ·cases this
   ·rename_i q2
    split at this
    ·cases this
    ·split at this
     ·cases this
     ·rename_i q4
      simp only [Bool.or_eq_true,not_or] at q2
      rw [Bool.not_eq_true,offP_false] at q1 q4
      rw [Bool.not_eq_true,Bool.not_eq_true,offP_false,offP_false] at q2
      exact ⟨q1,q2.1,q2.2,q4⟩
def fleetL (f : Nat → Fate) : List AV := [.int .i64 (f 0).late,.int .i64 (f 0).made,.int .i64 (f 1).late,.int .i64 (f 1).made,.int .i64 (f 2).late,.int .i64 (f 2).made]
def fleetA (f : Nat → Fate) : AV := .agg (fleetL f)
theorem fleet_drop (f : Nat → Fate) {s : Nat} (h : s < 3) : ∃ r,(fleetL f).drop (s * 2) = .int .i64 (f s).late :: .int .i64 (f s).made :: r := by
 have : s = 0 ∨ s = 1 ∨ s = 2 := by omega
 rcases this with rfl | rfl | rfl <;> exact ⟨_,rfl⟩
def lookedL (h : RHarb) (but : Int) (b : Nat) : List AV := [.int .i64 h.ports,.int .i64 h.lost,.slice 5 (h.ships.map shipA),.slice 3 (h.letters.map letA),.slice 4 (h.reports.map repA),
 .fn (.func 103) [] [],.fn (.func 104) [] [],.fn (.func 103) [] [],.fn (.func 104) [] [],.int .i64 but,.map b]
def dayN (h : RHarb) (f : Nat → Fate) (s : Nat) (port : Int) : Int :=
 if atC (h.ships[s]!).calls port < 0 ∨ (f s).made ≤ atC (h.ships[s]!).calls port then 61 else (h.ships[s]!).sails + ((h.ships[s]!).calls[(atC (h.ships[s]!).calls port).toNat]!).after + (f s).late
theorem day_c (h : RHarb) (hh : HOk h) (but : Int) (b : Nat) (f : Nat → Fate) (s : Nat) (port : Int) (hs : s < h.ships.length) (hl : 0 ≤ (f s).late ∧ (f s).late ≤ 3) :
  PCall Tryz.prog 62 [.eptr (lookedL h but b),fleetA f,.int .i64 s,.int .i64 port] (.int .i64 (dayN h f s port)) := by
 intro m
 have h3 := hh.n
 have hso := hh.ship s hs
 have h1 := at_c (h.ships[s]!) port
 obtain ⟨r,hdr⟩ := fleet_drop f (s := s) (by omega)
 have hcall := hso.call
 have hsa := hso.sails
 have e : dayN h f s port = if atC (h.ships[s]!).calls port < 0 ∨ (f s).made ≤ atC (h.ships[s]!).calls port then 61 else (h.ships[s]!).sails + ((h.ships[s]!).calls[(atC (h.ships[s]!).calls port).toNat]!).after + (f s).late := rfl
 have hat : atC (h.ships[s]!).calls port = -1 ∨ ∃ k,k < (h.ships[s]!).calls.length ∧ atC (h.ships[s]!).calls port = (k : Int) := idxL_cases _ _
 generalize hA : atC (h.ships[s]!).calls port = A at *
 simp only [lookedL,fleetA,fleetL,shipA,shipL] at *
 (refine acall_intro (E := envC (modeAt [9] []) false []) (envCOk _ _ _) rfl Tryz.func62 rfl Tryz.call62 (by kernel_rfl) (by simp [Tryz.ntmps62]) ?_; simp only [Tryz.f62];  simp(maxSteps:=9^9)only[↓VX,VQ,seval])
 repeat'(first|intro _|apply And.intro)
 all_goals try first|omega|(simp only[LL];omega)|exact nlC (by decide) _|exact nbC rfl
 (refine ACall.pure (h1) ?_; try simp(maxSteps:=9^9)only[↓VX,VQ,seval,GL,↓hdr])
 repeat'(first|intro _|apply And.intro)
 all_goals try first|omega|(simp only[LL];omega)|exact nlC (by decide) _|exact nbC rfl
 ·rw [e,if_pos (.inr (by assumption))]
 ·have q1 : ¬ A < 0 := by assumption
  have q2 : ¬ (f s).made ≤ A := by assumption
  rw [if_neg (by omega)] at e
  obtain ⟨k,hk,hAk⟩ := hat.resolve_left (by omega)
  obtain ⟨c1,c2,_⟩ := hcall k hk
  have hAn : A.toNat = k := by omega
  rw [hAn] at e
  (refine adraw (by first | exact envOk _ | exact envCOk _ _ _) mixed [⟨false,false,0⟩,⟨false,false,0⟩,⟨false,false,0⟩,⟨false,false,0⟩,⟨false,false,0⟩,⟨false,false,0⟩,⟨false,false,0⟩,⟨false,false,0⟩,⟨false,false,0⟩,⟨false,false,0⟩,⟨false,false,0⟩,⟨false,false,0⟩,⟨false,false,0⟩,⟨false,false,0⟩,⟨false,false,0⟩] (by kernel_rfl) ?_; show vcOpsD _ _ _ (_ :: _) _ _)
  simp(maxSteps:=9^9)only[↓VX,VQ,seval,↓hdr,hAn]
  repeat'(first|intro _|apply And.intro)
  all_goals try first|omega|(simp only[LL];omega)|exact nlC (by decide) _|exact nbC rfl
  rw [e]
 ·rw [e,if_pos (.inl (by omega))]
def sinksB (h : RHarb) (f : Nat → Fate) (i : Nat) : Bool := decide ((f i).made < (h.ships[i]!).calls.length)
def lostS (h : RHarb) (f : Nat → Fate) (n : Nat) : Nat := setOf (sinksB h f) n
theorem lost_c (h : RHarb) (hh : HOk h) (but : Int) (b : Nat) (f : Nat → Fate) :
  PCall Tryz.prog 59 [.eptr (lookedL h but b),fleetA f] (.tuple [.int .i64 (lostS h f h.ships.length),.int .i64 ((List.range h.ships.length).filter (sinksB h f)).length]) := by
 intro m
 have h3 := hh.n
 have hdr := fun s (hs : s < h.ships.length) => fleet_drop f (s := s) (by omega)
 have hlt := fun k => setOf_lt (sinksB h f) k
 simp only [lookedL,fleetA,fleetL] at *
 (refine acall_intro (E := envC (modeAt [7] []) false []) (envCOk _ _ _) rfl Tryz.func59 rfl Tryz.call59 (by kernel_rfl) (by simp [Tryz.ntmps59]) ?_; simp only [Tryz.f59];  simp(maxSteps:=9^9)only[↓VX,VQ,seval])
 repeat'(first|intro _|apply And.intro)
 all_goals try first|omega|(simp only[LL];omega)|exact nlC (by decide) _|exact nbC rfl
 refine aloop (envCOk _ _ _) (fun k : Nat => ⟨[(3,.v (.eptr [.int .i64 (f 0).late,.int .i64 (f 0).made,.int .i64 (f 1).late,.int .i64 (f 1).made,.int .i64 (f 2).late,.int .i64 (f 2).made])),(4,.v (.int .i64 (setOf (sinksB h f) k))),(5,.v (.int .i64 ((List.range k).filter (sinksB h f)).length)),(12,.v (.slice 5 (h.ships.map shipA))),(13,.v (.int .i64 h.ships.length)),(14,.v (.int .i64 k))],[],[],m⟩)
  (fun k => k ≤ h.ships.length) (fun k => h.ships.length - k) 0 (fun _ => rfl) (by simp) (by (simp only [FE,↓FP,seval]); try simp [setOf]) ?_
 intro k hk
 have hk8 := hlt k
 have hp : 2 ^ k ≤ 2 ^ 3 := Nat.pow_le_pow_right (by decide) (by omega)
 have hcnt : ((List.range k).filter (sinksB h f)).length ≤ k := Nat.le_trans (List.length_filter_le _ _) (by simp)
 have hsucc : (List.range (k + 1)).filter (sinksB h f) = (List.range k).filter (sinksB h f) ++ if sinksB h f k = true then [k] else [] := by
  rw [List.range_succ,List.filter_append]
  by_cases q : sinksB h f k = true <;> simp [q]
 have hsb : sinksB h f k = decide ((f k).made < (h.ships[k]!).calls.length) := rfl
 simp(maxSteps:=9^9)only[↓VX,VQ,seval]
 repeat'(first|intro _|apply And.intro)
 all_goals try first|omega|(simp only[LL];omega)|exact nlC (by decide) _|exact nbC rfl
 ·obtain ⟨r,hd⟩ := hdr k (by omega)
  (refine adraw (by first | exact envOk _ | exact envCOk _ _ _) mixed [⟨false,false,0⟩,⟨false,false,0⟩,⟨false,false,0⟩,⟨false,false,0⟩,⟨false,false,0⟩,⟨false,false,0⟩,⟨false,false,0⟩,⟨false,false,0⟩] (by kernel_rfl) ?_; show vcOpsD _ _ _ (_ :: _) _ _)
  simp(maxSteps:=9^9)only[↓VX,VQ,seval,↓hd]
  repeat'(first|intro _|apply And.intro)
  all_goals try first|omega|(simp only[LL];omega)|exact nlC (by decide) _|exact nbC rfl
  ·have q : sinksB h f k = true := by rw [hsb]; exact decide_eq_true (by assumption)
   rw [if_pos q] at hsucc
   refine ⟨k + 1,by dsimp only; omega,by dsimp only; omega,?_⟩
   (simp only [FE,↓FP,seval])
   rw [hsucc]
   simp [setOf,q]
  ·have q : ¬ sinksB h f k = true := by rw [hsb,decide_eq_true_eq]; assumption
   rw [if_neg q] at hsucc
   refine ⟨k + 1,by dsimp only; omega,by dsimp only; omega,?_⟩
   (simp only [FE,↓FP,seval])
   rw [hsucc]
   simp [setOf,q]
 ·rw [show k = h.ships.length by omega]; rfl
def dayR (h : RHarb) (l : List Fate) (s : Nat) (port : Int) : Int :=
 if atC (h.ships[s]!).calls port < 0 ∨ (l[s]!).made ≤ atC (h.ships[s]!).calls port then -1 else (h.ships[s]!).sails + ((h.ships[s]!).calls[(atC (h.ships[s]!).calls port).toNat]!).after + (l[s]!).late
def lostL (h : RHarb) (l : List Fate) (n : Nat) : List Int := ((List.range n).filter fun i => decide ((l[i]!).made < (h.ships[i]!).calls.length)).map fun (i : Nat) => (i : Int)
def untilB (a d : Int) : Bool := decide (0 ≤ a) && decide (a ≤ d)
def soB (r : RRep) (d : Int) : Bool := if r.kind = 0 ∨ r.kind = 2 then decide (d = r.day) else !untilB d r.day
def ofB (h : RHarb) (k : Nat) (but : List Int) (i : Nat) : Bool := decide (2 ≤ (h.reports[i]!).kind) && (decide ((h.reports[i]!).of_ = (k : Int)) && decide ((i : Int) ∉ but))
def repsB (h : RHarb) (l : List Fate) (k : Nat) (but : List Int) (s n : Nat) : Bool := (List.range n).all fun i => !ofB h k but i || soB (h.reports[i]!) (dayR h l s (h.letters[k]!).port)
def shipB (h : RHarb) (k s : Nat) : Bool := takesB (h.ships[s]!) (h.letters[k]!).port (h.letters[k]!).day && (decide ((h.letters[k]!).ship = -1) || decide ((h.letters[k]!).ship = (s : Int)))
def canB (h : RHarb) (l : List Fate) (k : Nat) (but : List Int) (s : Nat) : Bool := shipB h k s && repsB h l k but s h.reports.length
def couldL (h : RHarb) (l : List Fate) (k : Nat) (but : List Int) (n : Nat) : List Int := ((List.range n).filter (canB h l k but)).map fun (i : Nat) => (i : Int)
structure FOk (h : RHarb) (l : List Fate) : Prop where
 n : l.length = h.ships.length
 late : ∀ s,s < l.length → 0 ≤ (l[s]!).late ∧ (l[s]!).late ≤ 3
 made : ∀ s,s < l.length → 0 ≤ (l[s]!).made ∧ (l[s]!).made ≤ ((h.ships[s]!).calls.length : Int)
def indexE (c n b : Int) : Int := if c = 0 then (if offP 0 (b - 1) n = true then 4 else 0) else c
def dayE (d e : Int) : Int := if e = 0 then (if offP 0 60 d = true then 7 else 0) else e
/-! ### Fleet -/
theorem fok_len : ∀ {l : List RShip} {f : List Fate},fokB l f = true → f.length = l.length
 | [],[],_ => rfl
 | [],_ :: _,h => by simp [fokB] at h
 | _ :: _,[],h => by simp [fokB] at h
 | _ :: r,_ :: f,h => by
  simp only [fokB,Bool.and_eq_true] at h
  simp [fok_len h.2]
end Go.Proofs.YteppmjlfpniiaaaGreat.Abs
