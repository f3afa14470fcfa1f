/- Lemmas for the statements of this seat (X15): they hold without conditions beyond those that each one states. -/
import Derived.Test.YteppmjlfpniiaaaGreatX14
/- Contracts: loads. -/
namespace Go.Proofs.YteppmjlfpniiaaaGreat.Abs
set_option linter.unusedSimpArgs false
set_option maxHeartbeats 4000000
set_option maxRecDepth 100000
open Go Go.RowKit Go.Proofs
def Known (h : RHarb) (b bm : Nat) (m : Mem) : Prop := ∃ ls,(∀ x ∈ ls,x.length = h.ships.length ∧ loadsOk h b x = true) ∧ m bm = some (.map (knownKv h b ls))
theorem loads_known (h : RHarb) (hh : HOk h) (b : Nat) (bm : Nat) (l : List Fate) (hl : FOk h l) (ls : List (List Fate)) (hn : ∀ x ∈ ls,x.length = h.ships.length ∧ loadsOk h b x = true) (hin : l ∈ ls) (m : Mem) (hm : m bm = some (.map (knownKv h b ls))) :
  ACall Tryz.prog 92 [.eptr (lookedL h b bm),keyA l] m fun r m' => r = .tuple [loadsV h b l,.bool true] ∧ m' = m := by
 refine ACall.forget ?_
 have h3 := hh.n
 have hfind := known_find h3 b hl.n ls (fun x hx => (hn x hx).1)
 rw [if_pos hin] at hfind
 have e : loadsV h b l = .agg [.int .i64 (loadK h b l h.reports.length 0),.int .i64 (loadK h b l h.reports.length 1),.int .i64 (loadK h b l h.reports.length 2),.int .i64 (loadK h b l h.reports.length 3)] := rfl
 rw [e] at hfind ⊢
 simp only [lookedL,keyA,fleetA,fleetL] at *
 (refine acall_intro (E := envC (modeAt [6,10,13] [4]) false []) (envCOk _ _ _) rfl Tryz.func92 rfl Tryz.call92 (by kernel_rfl) (by simp [Tryz.ntmps92]) ?_; simp only [Tryz.f92];  simp(maxSteps:=9^9)only[↓VX,VQ,seval])
 intro b4 hb4
 have hne : bm ≠ b4 := by rintro rfl; rw [hm] at hb4; cases hb4
 have hne' : b4 ≠ bm := fun e => hne e.symm
 repeat'(first|intro _|apply And.intro)
 (refine adraw (by first | exact envOk _ | exact envCOk _ _ _) mixed [⟨true,false,0⟩,⟨true,false,0⟩,⟨true,false,0⟩,⟨true,false,0⟩,⟨true,false,0⟩,⟨true,false,3⟩,⟨true,false,0⟩,⟨true,false,0⟩,⟨true,false,0⟩,⟨true,false,0⟩,⟨false,false,0⟩,⟨false,false,0⟩] (by kernel_rfl) ?_; show vcOpsD _ _ _ (_ :: _) _ _)
 simp(maxSteps:=9^9)only[↓VX,VQ,seval,hm,isLook,hidM,hne,hne']
 refine VFind.of hfind ?_
 simp(maxSteps:=9^9)only[↓VX,VQ,seval]
 refine ⟨m,fun k x hx => ?_,rfl⟩
 have hk : k ≠ b4 := by rintro rfl; rw [hx] at hb4; cases hb4
 rw [if_neg hk,if_neg hk]
 exact hx
theorem loads_new (h : RHarb) (hh : HOk h) (b : Nat) (hb : b < 2 ^ 32) (bm : Nat) (l : List Fate) (hl : FOk h l) (ls : List (List Fate)) (hn : ∀ x ∈ ls,x.length = h.ships.length ∧ loadsOk h b x = true) (hin : l ∉ ls) (m : Mem) (hm : m bm = some (.map (knownKv h b ls))) :
  ACall Tryz.prog 92 [.eptr (lookedL h b bm),keyA l] m fun r m' =>
   (loadsOk h b l = true ∧ r = .tuple [loadsV h b l,.bool true] ∧ m' = upd m bm (some (.map (knownKv h b (ls ++ [l]))))) ∨
   (loadsOk h b l = false ∧ r = .tuple [.agg [.int .i64 0,.int .i64 0,.int .i64 0,.int .i64 0],.bool false] ∧ m' = m) := by
 refine ACall.forget ?_
 have h3 := hh.n
 have h4 := hh.nl
 have h5 := hh.nr
 have hfind := known_find h3 b hl.n ls (fun x hx => (hn x hx).1)
 rw [if_neg hin] at hfind
 have hload : loadsOk h b l = (saidN h (fun i => l[i]!) b h.reports.length && (List.range h.letters.length).all fun k => decide (loadS h (fun i => l[i]!) b h.reports.length k ≠ 0)) := rfl
 generalize loadsOk h b l = OK at hload ⊢
 have htk := fun (i s : Nat) => takes_c (h.ships[s]!) (h.letters[i]!).port (h.letters[i]!).day
 have hz : [AV.int .i64 0,.int .i64 0,.int .i64 0,.int .i64 0] = nL (firstK h 0 0) 4 := by rw [firstK_zero]; rfl
 have hkv := knownKv_add h b ls l
 have eA : keyA l = .agg [.int .i64 (l[0]!).late,.int .i64 (l[0]!).made,.int .i64 (l[1]!).late,.int .i64 (l[1]!).made,.int .i64 (l[2]!).late,.int .i64 (l[2]!).made] := rfl
 rw [eA] at hfind hkv ⊢
 simp only [lookedL,shipA,shipL] at *
 (refine acall_intro (E := envC (modeAt [6,10,13] [4]) false []) (envCOk _ _ _) rfl Tryz.func92 rfl Tryz.call92 (by kernel_rfl) (by simp [Tryz.ntmps92]) ?_; simp only [Tryz.f92];  simp(maxSteps:=9^9)only[↓VX,VQ,seval])
 intro b4 hb4
 have hne : bm ≠ b4 := by rintro rfl; rw [hm] at hb4; cases hb4
 have hne' : b4 ≠ bm := fun e => hne e.symm
 repeat'(first|intro _|apply And.intro)
 (refine adraw (by first | exact envOk _ | exact envCOk _ _ _) mixed [⟨true,false,0⟩,⟨true,false,0⟩,⟨true,false,0⟩,⟨true,false,0⟩,⟨true,false,0⟩,⟨true,false,3⟩,⟨true,false,0⟩,⟨true,false,0⟩,⟨true,false,0⟩,⟨true,false,0⟩,⟨false,false,0⟩,⟨false,false,0⟩] (by kernel_rfl) ?_; show vcOpsD _ _ _ (_ :: _) _ _)
 simp(maxSteps:=9^9)only[↓VX,VQ,seval,hm,isLook,hidM,hne,hne']
 refine VFind.of hfind ?_
 simp(maxSteps:=9^9)only[↓VX,VQ,seval]
 repeat'(first|intro _|apply And.intro)
 all_goals try first|omega|(simp only[LL];omega)|exact nlC (by decide) _|exact nbC rfl
 refine aloop (envCOk _ _ _) (fun i : Nat => ⟨[(0,.v (.eptr (lookedL h b bm))),(3,.v (.eptr (fleetL fun i => l[i]!))),(4,.v (.ptr b4 0)),(8,.v (.fn (.func 62) [.eptr (lookedL h b bm)] [])),(32,.v (.slice 3 (h.letters.map letA))),(33,.v (.int .i64 h.letters.length)),(34,.v (.int .i64 i))],[],[],
   upd m b4 (some (.cells (nL (firstK h i 0) 4)))⟩)
  (fun i => i ≤ h.letters.length) (fun i => h.letters.length - i) 0 (fun _ => rfl) (by simp) (by (simp only [FE,↓FP,seval]); rw [← hz]; simp [lookedL,fleetL]) ?_
 intro i hi
 simp only [lookedL,fleetL]
 simp(maxSteps:=9^9)only[↓VX,VQ,seval]
 repeat'(first|intro _|apply And.intro)
 all_goals try first|omega|(simp only[LL];omega)|exact nlC (by decide) _|exact nbC rfl
 ·have hlt : i < h.letters.length := by omega
  refine aloop (envCOk _ _ _) (fun s : Nat => ⟨[(0,.v (.eptr (lookedL h b bm))),(3,.v (.eptr (fleetL fun i => l[i]!))),(4,.v (.ptr b4 0)),(8,.v (.fn (.func 62) [.eptr (lookedL h b bm)] [])),(9,.v (.int .i64 i)),(10,.loc 10 0),
    (32,.v (.slice 3 (h.letters.map letA))),(33,.v (.int .i64 h.letters.length)),(34,.v (.int .i64 i)),(43,.v (.slice 5 (h.ships.map shipA))),(44,.v (.int .i64 h.ships.length)),(45,.v (.int .i64 s))],[],
    [(10,[.int .i64 (h.letters[i]!).port,.int .i64 (h.letters[i]!).day,.int .i64 (h.letters[i]!).ship])],upd m b4 (some (.cells (nL (firstK h i s) 4)))⟩)
   (fun s => s ≤ h.ships.length) (fun s => h.ships.length - s) 0 (fun _ => rfl) (by simp) (by (simp only [FE,↓FP,seval]); try simp [lookedL,fleetL,overlay]) ?_
  intro s hs
  have hsu : setOf (shipB h i) (s + 1) = if shipB h i s = true then setOf (shipB h i) s ||| 2 ^ s else setOf (shipB h i) s := rfl
  have hV := setOf_lt (shipB h i) s
  have hp : 2 ^ s ≤ 2 ^ 3 := Nat.pow_le_pow_right (by decide) (by omega)
  have hat := firstK_at (h := h) (i := i) (s := s)
  have hdr := nL_drop (f := firstK h i s) (show i < 4 by omega)
  have hset := fun x q => nL_set' (f := firstK h i s) (f' := firstK h i (s + 1)) (show i < 4 by omega) (x := x) q fun g _ hg => firstK_other hg
  have hsame : shipB h i s = false → nL (firstK h i s) 4 = nL (firstK h i (s + 1)) 4 := fun q => nL_congr fun g _ => by
   by_cases qg : g = i
   ·subst qg; rw [firstK_at,firstK_at,hsu,if_neg (by rw [q]; decide)]
   ·rw [firstK_other qg]
  have hshb : shipB h i s = (takesB (h.ships[s]!) (h.letters[i]!).port (h.letters[i]!).day && (decide ((h.letters[i]!).ship = -1) || decide ((h.letters[i]!).ship = (s : Int)))) := rfl
  have hnext := firstK_next h i
  have ht' := htk i s
  simp only [lookedL,fleetL]
  generalize hT : takesB (h.ships[s]!) (h.letters[i]!).port (h.letters[i]!).day = T at *
  simp(maxSteps:=9^9)only[↓VX,VQ,seval]
  repeat'(first|intro _|apply And.intro)
  all_goals try first|omega|(simp only[LL];omega)|exact nlC (by decide) _|exact nbC rfl
  ·have hslt : s < h.ships.length := by omega
   (refine adraw (by first | exact envOk _ | exact envCOk _ _ _) mixed [⟨false,false,0⟩,⟨false,false,0⟩,⟨false,false,0⟩,⟨false,false,0⟩,⟨false,false,0⟩,⟨false,false,0⟩,⟨false,false,0⟩,⟨false,false,0⟩,⟨false,false,0⟩,⟨false,false,0⟩,⟨false,false,0⟩,⟨false,false,0⟩,⟨false,false,0⟩,⟨false,false,0⟩,⟨false,false,0⟩,⟨false,false,0⟩,⟨false,false,0⟩,⟨false,false,0⟩,⟨false,false,0⟩,⟨false,false,0⟩,⟨false,false,0⟩,⟨false,false,0⟩,⟨false,false,0⟩,⟨false,false,0⟩] (by kernel_rfl) ?_; show vcOpsD _ _ _ (_ :: _) _ _)
   simp(maxSteps:=9^9)only[↓VX,VQ,seval]
   repeat'(first|intro _|apply And.intro)
   all_goals try first|omega|(simp only[LL];omega)|exact nlC (by decide) _|exact nbC rfl
   refine VPure.of ht' ?_
   simp(maxSteps:=9^9)only[↓VX,VQ,seval]
   repeat'(first|intro _|apply And.intro)
   all_goals try first|omega|(simp only[LL];omega)|exact nlC (by decide) _|exact nbC rfl
   ·have qs : shipB h i s = true := by rw [hshb,show T = true by assumption,decide_eq_true (show (h.letters[i]!).ship = (s : Int) by assumption)]; simp
    (refine adraw (by first | exact envOk _ | exact envCOk _ _ _) mixed [⟨true,false,0⟩,⟨true,false,0⟩,⟨false,false,0⟩,⟨true,false,0⟩,⟨true,false,0⟩,⟨true,false,0⟩,⟨true,false,0⟩,⟨false,false,0⟩] (by kernel_rfl) ?_; show vcOpsD _ _ _ (_ :: _) _ _)
    simp(maxSteps:=9^9)only[↓VX,VQ,seval,hdr,hat]
    repeat'(first|intro _|apply And.intro)
    all_goals try first|omega|(simp only[LL];omega)|exact nlC (by decide) _|exact nbC rfl
    ·rw [nL_length]; omega
    ·rw [if_pos qs] at hsu
     refine ⟨s + 1,by dsimp only; omega,by dsimp only; omega,?_⟩
     (simp only [FE,↓FP,seval])
     rw [upd_upd,hset _ (by rw [firstK_at,hsu])]
     exact ⟨rfl,rfl⟩
   ·have qs : shipB h i s = false := by rw [hshb,decide_eq_false (show ¬ (h.letters[i]!).ship = (s : Int) by assumption),decide_eq_false (show ¬ (h.letters[i]!).ship = -1 by assumption)]; simp
    refine ⟨s + 1,by dsimp only; omega,by dsimp only; omega,?_⟩
    (simp only [FE,↓FP,seval])
    rw [hsame qs]
    exact ⟨rfl,rfl⟩
   ·have qs : shipB h i s = true := by rw [hshb,show T = true by assumption,decide_eq_true (show (h.letters[i]!).ship = -1 by omega)]; simp
    (refine adraw (by first | exact envOk _ | exact envCOk _ _ _) mixed [⟨true,false,0⟩,⟨true,false,0⟩,⟨false,false,0⟩,⟨true,false,0⟩,⟨true,false,0⟩,⟨true,false,0⟩,⟨true,false,0⟩,⟨false,false,0⟩] (by kernel_rfl) ?_; show vcOpsD _ _ _ (_ :: _) _ _)
    simp(maxSteps:=9^9)only[↓VX,VQ,seval,hdr,hat]
    repeat'(first|intro _|apply And.intro)
    all_goals try first|omega|(simp only[LL];omega)|exact nlC (by decide) _|exact nbC rfl
    ·rw [nL_length]; omega
    ·rw [if_pos qs] at hsu
     refine ⟨s + 1,by dsimp only; omega,by dsimp only; omega,?_⟩
     (simp only [FE,↓FP,seval])
     rw [upd_upd,hset _ (by rw [firstK_at,hsu])]
     exact ⟨rfl,rfl⟩
   ·have qs : shipB h i s = false := by rw [hshb,show T = false by (first | assumption | (rw [← Bool.not_eq_false]; assumption) | (rw [← Bool.not_eq_true]; assumption) | omega)]; simp
    refine ⟨s + 1,by dsimp only; omega,by dsimp only; omega,?_⟩
    (simp only [FE,↓FP,seval])
    rw [hsame qs]
    exact ⟨rfl,rfl⟩
  ·refine ⟨i + 1,by dsimp only; omega,by dsimp only; omega,?_⟩
   (simp only [FE,↓FP,seval])
   rw [show s = h.ships.length by omega,hnext]
   exact ⟨rfl,rfl⟩
 ·have hil : i = h.letters.length := by omega
  have hrep := hh.report
  have hk0 : nL (firstK h i 0) 4 = nL (loadK h b l 0) 4 := by rw [hil,firstK_load h b l]
  refine aloop (envCOk _ _ _) (fun n : Nat => ⟨[(0,.v (.eptr (lookedL h b bm))),(3,.v (.eptr (fleetL fun i => l[i]!))),(4,.v (.ptr b4 0)),(8,.v (.fn (.func 62) [.eptr (lookedL h b bm)] [])),(85,.v (.slice 4 (h.reports.map repA))),(86,.v (.int .i64 h.reports.length)),(87,.v (.int .i64 n))],[],[],
    upd m b4 (some (.cells (nL (loadK h b l n) 4)))⟩)
   (fun n => n ≤ h.reports.length ∧ saidN h (fun i => l[i]!) b n = true) (fun n => h.reports.length - n) 0 (fun _ => rfl) (by simp [saidN]) (by (simp only [FE,↓FP,seval]); rw [hk0]; simp [lookedL,fleetL]) ?_
  rintro n ⟨hnn,hsaid⟩
  have hlow : n < h.reports.length → saidN h (fun i => l[i]!) b (n + 1) = false → OK = false := fun q1 q2 => by rw [hload,saidN_false q1 q2]; rfl
  have hsu := saidN_succ h (fun i => l[i]!) b n
  rw [hsaid,Bool.true_and] at hsu
  have hb2 : b / 2 ^ n ≤ b := Nat.div_le_self _ _
  simp only [lookedL,fleetL]
  simp(maxSteps:=9^9)only[↓VX,VQ,seval,repA]
  repeat'(first|intro _|apply And.intro)
  all_goals try first|omega|(simp only[LL];omega)|exact nlC (by decide) _|exact nbC rfl
  ·have qb : b.testBit n = true := by assumption
   have hq : ∀ k,ofN h k b n = false := fun k => by unfold ofN; rw [qb]; simp
   have hs0 : ofSN h b n = false := by unfold ofSN; rw [qb]; simp
   refine ⟨n + 1,⟨by omega,by rw [hsu,hs0]; rfl⟩,by dsimp only; omega,?_⟩
   (simp only [FE,↓FP,seval])
   rw [loadK_skip hq]
   exact ⟨rfl,rfl⟩
  ·have hnlt : n < h.reports.length := by omega
   have qb : b.testBit n = false := by (first | assumption | (rw [← Bool.not_eq_false]; assumption) | (rw [← Bool.not_eq_true]; assumption) | omega)
   have qk : (h.reports[n]!).kind < 2 := by assumption
   obtain ⟨r1,r2,r3,r4⟩ := hrep n hnlt
   rw [if_pos qk] at r2
   obtain ⟨g,hg1,hg2⟩ := kind_fn r1
   obtain ⟨rest,hg1⟩ := hg1 (.int .i64 b) (.map bm)
   have hof : (h.reports[n]!).of_ = (((h.reports[n]!).of_.toNat : Nat) : Int) := by omega
   have hd := day_c h hh b bm (fun i => l[i]!) (h.reports[n]!).of_.toNat (h.reports[n]!).port (by omega) (hl.late _ (by rw [hl.n]; omega))
   rw [← hof] at hd
   have hs1 : ofSN h b n = true := by unfold ofSN; rw [qb,decide_eq_true qk]; rfl
   have hq : ∀ k,ofN h k b n = false := fun k => by unfold ofN; rw [decide_eq_false (by omega)]; rfl
   have hg2 := hg2 (dayN h (fun i => l[i]!) (h.reports[n]!).of_.toNat (h.reports[n]!).port)
   rw [hs1,Bool.not_true,Bool.false_or] at hsu
   generalize soN (h.reports[n]!) (dayN h (fun i => l[i]!) (h.reports[n]!).of_.toNat (h.reports[n]!).port) = so at *
   simp only [lookedL,fleetA,fleetL] at hd
   (refine adraw (by first | exact envOk _ | exact envCOk _ _ _) mixed [⟨false,false,0⟩,⟨false,false,0⟩,⟨false,false,0⟩,⟨false,false,0⟩,⟨false,false,0⟩,⟨false,false,0⟩,⟨false,false,0⟩,⟨false,false,0⟩,⟨false,false,0⟩,⟨false,false,0⟩,⟨false,false,0⟩,⟨false,false,0⟩,⟨false,false,0⟩,⟨false,false,0⟩,⟨false,false,0⟩,⟨false,false,0⟩,⟨false,false,0⟩,⟨false,false,0⟩,⟨false,false,0⟩] (by kernel_rfl) ?_; show vcOpsD _ _ _ (_ :: _) _ _)
   simp(maxSteps:=9^9)only[↓VX,VQ,seval,hg1]
   repeat'(first|intro _|apply And.intro)
   all_goals try first|omega|(simp only[LL];omega)|exact nlC (by decide) _|exact nbC rfl
   refine VPure.of hd ?_
   simp(maxSteps:=9^9)only[↓VX,VQ,seval]
   repeat'(first|intro _|apply And.intro)
   all_goals try first|omega|(simp only[LL];omega)|exact nlC (by decide) _|exact nbC rfl
   refine VPure.of hg2 ?_
   simp(maxSteps:=9^9)only[↓VX,VQ,seval]
   repeat'(first|intro _|apply And.intro)
   all_goals try first|omega|(simp only[LL];omega)|exact nlC (by decide) _|exact nbC rfl
   ·have q : so = false := by (first | assumption | (rw [← Bool.not_eq_false]; assumption) | (rw [← Bool.not_eq_true]; assumption) | omega)
    have hOK := hlow hnlt (by rw [hsu,q])
    refine ⟨m,fun k x hx => ?_,.inr ⟨hOK,rfl⟩⟩
    have hk : k ≠ b4 := by rintro rfl; rw [hx] at hb4; cases hb4
    rw [if_neg hk,if_neg hk]
    exact hx
   ·have q : so = true := by (first | assumption | (rw [← Bool.not_eq_false]; assumption) | (rw [← Bool.not_eq_true]; assumption) | omega)
    refine ⟨n + 1,⟨by omega,by rw [hsu,q]⟩,by dsimp only; omega,?_⟩
    (simp only [FE,↓FP,seval])
    rw [loadK_skip hq]
    exact ⟨rfl,rfl⟩
  ·have hnlt : n < h.reports.length := by omega
   have qb : b.testBit n = false := by (first | assumption | (rw [← Bool.not_eq_false]; assumption) | (rw [← Bool.not_eq_true]; assumption) | omega)
   have qk : ¬ (h.reports[n]!).kind < 2 := by assumption
   obtain ⟨r1,r2,r3,r4⟩ := hrep n hnlt
   rw [if_neg qk] at r2
   obtain ⟨g,hg1,hg2⟩ := kind_fn r1
   obtain ⟨rest,hg1⟩ := hg1 (.int .i64 b) (.map bm)
   have hof : (h.reports[n]!).of_ = (((h.reports[n]!).of_.toNat : Nat) : Int) := by omega
   have hs1 : ofSN h b n = false := by unfold ofSN; rw [decide_eq_false qk]; rfl
   have hofn : ∀ k,ofN h k b n = decide ((h.reports[n]!).of_ = (k : Int)) := fun k => by unfold ofN; rw [qb,decide_eq_true (by omega)]; simp
   have hend := midK_end h b l n
   generalize hK : (h.reports[n]!).of_.toNat = K at *
   have hKl : K < h.letters.length := by omega
   refine aloop (envCOk _ _ _) (fun s : Nat => ⟨[(0,.v (.eptr (lookedL h b bm))),(3,.v (.eptr (fleetL fun i => l[i]!))),(4,.v (.ptr b4 0)),(8,.v (.fn (.func 62) [.eptr (lookedL h b bm)] [])),(12,.v (.int .i64 n)),(13,.loc 13 0),(85,.v (.slice 4 (h.reports.map repA))),(86,.v (.int .i64 h.reports.length)),(87,.v (.int .i64 n)),
     (127,.v (.slice 5 (h.ships.map shipA))),(128,.v (.int .i64 h.ships.length)),(129,.v (.int .i64 s))],[],[(13,[.int .i64 (h.reports[n]!).kind,.int .i64 (h.reports[n]!).of_,.int .i64 (h.reports[n]!).port,.int .i64 (h.reports[n]!).day])],
     upd m b4 (some (.cells (nL (midK h b l n s) 4)))⟩)
    (fun s => s ≤ h.ships.length) (fun s => h.ships.length - s) 0 (fun _ => rfl) (by simp) (by (simp only [FE,↓FP,seval]); rw [midK_zero]; simp [lookedL,fleetL,overlay]) ?_
   intro s hs
   have hd := fun (q : s < h.ships.length) => day_c h hh b bm (fun i => l[i]!) s (h.letters[K]!).port q (hl.late _ (by rw [hl.n]; exact q))
   have hg2 := hg2 (dayN h (fun i => l[i]!) s (h.letters[K]!).port)
   have hdr := nL_drop (f := midK h b l n s) (show K < 4 by omega)
   have hat : midK h b l n s K = ((setOf (midB h (fun i => l[i]!) b n s K) h.ships.length : Nat) : Int) := by unfold midK; rw [if_pos hKl]
   have hoth : ∀ g,g ≠ K → midK h b l n (s + 1) g = midK h b l n s g := fun g hg => midK_other (by rw [hofn,decide_eq_false (by omega)])
   have hkeep := midK_keep (h := h) (b := b) (l := l) (n := n) (s := s) (k := K)
   have hcut := midK_cut (h := h) (b := b) (l := l) (n := n) (s := s) hKl (by rw [hofn,decide_eq_true (by omega)])
   have hset := fun x q => nL_set' (f := midK h b l n s) (f' := midK h b l n (s + 1)) (show K < 4 by omega) (x := x) q fun g _ hg => hoth g hg
   have hV := setOf_lt (midB h (fun i => l[i]!) b n s K) h.ships.length
   have hp : 2 ^ h.ships.length ≤ 2 ^ 3 := Nat.pow_le_pow_right (by decide) (by omega)
   have hps : 2 ^ s ≤ 2 ^ 3 := Nat.pow_le_pow_right (by decide) (by omega)
   generalize soN (h.reports[n]!) (dayN h (fun i => l[i]!) s (h.letters[K]!).port) = so at *
   generalize setOf (midB h (fun i => l[i]!) b n s K) h.ships.length = V at *
   simp only [lookedL,fleetA,fleetL] at hd ⊢
   simp(maxSteps:=9^9)only[↓VX,VQ,seval]
   repeat'(first|intro _|apply And.intro)
   all_goals try first|omega|(simp only[LL];omega)|exact nlC (by decide) _|exact nbC rfl
   ·have hslt : s < h.ships.length := by omega
    have hd := hd hslt
    (refine adraw (by first | exact envOk _ | exact envCOk _ _ _) mixed [⟨false,false,0⟩,⟨false,false,0⟩,⟨false,false,0⟩,⟨false,false,0⟩,⟨false,false,0⟩,⟨false,false,0⟩,⟨false,false,0⟩,⟨false,false,0⟩,⟨false,false,0⟩,⟨false,false,0⟩,⟨false,false,0⟩,⟨false,false,0⟩,⟨false,false,0⟩,⟨false,false,0⟩,⟨false,false,0⟩,⟨false,false,0⟩,⟨false,false,0⟩,⟨false,false,0⟩,⟨false,false,0⟩,⟨false,false,0⟩,⟨false,false,0⟩,⟨false,false,0⟩,⟨false,false,0⟩,⟨false,false,0⟩,⟨false,false,0⟩,⟨false,false,0⟩] (by kernel_rfl) ?_; show vcOpsD _ _ _ (_ :: _) _ _)
    simp(maxSteps:=9^9)only[↓VX,VQ,seval,hg1,hK]
    repeat'(first|intro _|apply And.intro)
    all_goals try first|omega|(simp only[LL];omega)|exact nlC (by decide) _|exact nbC rfl
    refine VPure.of hd ?_
    simp(maxSteps:=9^9)only[↓VX,VQ,seval]
    repeat'(first|intro _|apply And.intro)
    all_goals try first|omega|(simp only[LL];omega)|exact nlC (by decide) _|exact nbC rfl
    refine VPure.of hg2 ?_
    simp(maxSteps:=9^9)only[↓VX,VQ,seval]
    repeat'(first|intro _|apply And.intro)
    all_goals try first|omega|(simp only[LL];omega)|exact nlC (by decide) _|exact nbC rfl
    ·have q : so = false := by (first | assumption | (rw [← Bool.not_eq_false]; assumption) | (rw [← Bool.not_eq_true]; assumption) | omega)
     (refine adraw (by first | exact envOk _ | exact envCOk _ _ _) mixed [⟨false,false,0⟩,⟨false,false,0⟩,⟨false,false,0⟩,⟨false,false,0⟩,⟨false,false,0⟩,⟨false,false,0⟩,⟨false,false,0⟩,⟨false,false,0⟩,⟨false,false,0⟩] (by kernel_rfl) ?_; show vcOpsD _ _ _ (_ :: _) _ _)
     simp(maxSteps:=9^9)only[↓VX,VQ,seval,hK,hdr,hat]
     repeat'(first|intro _|apply And.intro)
     all_goals try first|omega|(simp only[LL];omega)|exact nlC (by decide) _|exact nbC rfl
     ·rw [nL_length]; omega
     ·refine ⟨s + 1,by dsimp only; omega,by dsimp only; omega,?_⟩
      (simp only [FE,↓FP,seval])
      rw [upd_upd,hset _ (hcut q)]
      exact ⟨rfl,rfl⟩
    ·have q : so = true := by (first | assumption | (rw [← Bool.not_eq_false]; assumption) | (rw [← Bool.not_eq_true]; assumption) | omega)
     refine ⟨s + 1,by dsimp only; omega,by dsimp only; omega,?_⟩
     (simp only [FE,↓FP,seval])
     rw [show nL (midK h b l n s) 4 = nL (midK h b l n (s + 1)) 4 from nL_congr fun g _ => by
      by_cases qg : g = K
      ·subst qg; rw [hkeep q]
      ·rw [hoth g qg]]
     exact ⟨rfl,rfl⟩
   ·refine ⟨n + 1,⟨by omega,by rw [hsu,hs1]; rfl⟩,by dsimp only; omega,?_⟩
    (simp only [FE,↓FP,seval])
    rw [show s = h.ships.length by omega,hend]
    exact ⟨rfl,rfl⟩
  ·have hne2 : n = h.reports.length := by omega
   subst hne2
   have hcon := containsM_c b4 h.letters.length 4 ((List.range 4).map (loadK h b l h.reports.length)) 0 (by simp; omega) (by simp) h4 (upd m b4 (some (.cells (nL (loadK h b l h.reports.length) 4)))) (by rw [upd_same,nL_ints])
   rw [loads_none h4] at hcon
   rw [hsaid,Bool.true_and] at hload
   rw [← hload] at hcon
   rw [Nat.sub_zero]
   refine ACall.told hcon ?_
   rintro r m' ⟨rfl,rfl⟩
   have hV : loadsV h b l = .agg (nL (loadK h b l h.reports.length) 4) := rfl
   have hlen := nL_length (loadK h b l h.reports.length) 4
   simp(maxSteps:=9^9)only[↓VX,VQ,seval]
   repeat'(first|intro _|apply And.intro)
   all_goals try first|omega|(simp only[LL];omega)|exact nlC (by decide) _|exact nbC rfl
   ·have q : OK = false := by assumption
    refine ⟨m,fun k x hx => ?_,.inr ⟨q,by first | rfl | exact ⟨rfl,rfl⟩⟩⟩
    have hk : k ≠ b4 := by rintro rfl; rw [hx] at hb4; cases hb4
    rw [if_neg hk,if_neg hk]
    exact hx
   ·have q : OK = true := by simpa using (show ¬ OK = false by assumption)
    have htk4 : (nL (loadK h b l h.reports.length) 4).take 4 = nL (loadK h b l h.reports.length) 4 := List.take_of_length_le (by rw [nL_length]; omega)
    have hfl : (nL (loadK h b l h.reports.length) 4).all flat = true := rfl
    have hdr4 : (nL (loadK h b l h.reports.length) 4).drop 4 = [] := List.drop_eq_nil_of_le (by rw [nL_length]; omega)
    (refine adraw (by first | exact envOk _ | exact envCOk _ _ _) mixed [⟨false,false,0⟩,⟨false,false,0⟩,⟨false,false,0⟩,⟨false,false,0⟩,⟨false,false,0⟩,⟨false,false,0⟩,⟨false,false,0⟩] (by kernel_rfl) ?_; show vcOpsD _ _ _ (_ :: _) _ _)
    simp(maxSteps:=9^9)only[↓VX,VQ,seval,hm,hne,hne',hlen,htk4,hfl,hdr4]
    refine ⟨hfind,?_⟩
    repeat'(first|intro _|apply And.intro)
    all_goals try first|omega|(simp only[LL];omega)|exact nlC (by decide) _|exact nbC rfl
    refine ⟨upd m bm (some (.map (knownKv h b (ls ++ [l])))),fun k x hx => ?_,.inl ⟨q,rfl,by rw [hkv]⟩⟩
    rw [hkv] at hx
    by_cases hk : k = b4
    ·subst hk; rw [upd_ne _ _ hne',hb4] at hx; cases hx
    ·rw [if_neg hk]
     by_cases hk2 : k = bm
     ·subst hk2
      rw [upd_same] at hx
      simp only [if_true]
      exact hx
     ·rw [upd_ne _ _ hk2] at hx
      simp only [if_neg hk2,if_neg hk]
      exact hx
theorem loads_c (h : RHarb) (hh : HOk h) (b : Nat) (hb : b < 2 ^ 32) (bm : Nat) (l : List Fate) (hl : FOk h l) (m : Mem) (hm : Known h b bm m) :
  ACall Tryz.prog 92 [.eptr (lookedL h b bm),keyA l] m fun r m' =>
   ((loadsOk h b l = true ∧ r = .tuple [loadsV h b l,.bool true]) ∨ (loadsOk h b l = false ∧ r = .tuple [.agg [.int .i64 0,.int .i64 0,.int .i64 0,.int .i64 0],.bool false])) ∧ Known h b bm m' ∧ ∀ k,k ≠ bm → m' k = m k := by
 obtain ⟨ls,hn,hm⟩ := hm
 by_cases hin : l ∈ ls
 ·refine (loads_known h hh b bm l hl ls hn hin m hm).mono ?_
  rintro r m' ⟨rfl,rfl⟩
  exact ⟨.inl ⟨(hn l hin).2,rfl⟩,⟨ls,hn,hm⟩,fun _ _ => rfl⟩
 ·refine (loads_new h hh b hb bm l hl ls hn hin m hm).mono ?_
  rintro r m' (⟨q,rfl,rfl⟩ | ⟨q,rfl,rfl⟩)
  ·refine ⟨.inl ⟨q,rfl⟩,⟨ls ++ [l],fun x hx => ?_,upd_same _ _ _⟩,fun k hk => upd_ne _ _ hk⟩
   rcases List.mem_append.1 hx with hx | hx
   ·exact hn x hx
   ·rw [List.mem_singleton.1 hx]; exact ⟨hl.n,q⟩
  ·exact ⟨.inr ⟨q,rfl⟩,⟨ls,hn,hm⟩,fun _ _ => rfl⟩
theorem buildV (place : Nat → Option (Nat × Nat)) (cells : List AV) (i : Nat) (x : AV) (r : List (Nat × SV)) : buildFrom place cells ((i,.v x) :: r) =
  match place i with
  | some (off,sz) => if known x = true ∧ x.cells.length = sz ∧ off + sz ≤ cells.length then buildFrom place (overlay cells off x.cells) r else none
  | none => none := by
 cases h : place i with
 | none => rw [buildFrom.eq_3 _ _ _ _ _ (by intro a b c e; rw [h] at e; cases e)]
 | some y => obtain ⟨off,sz⟩ := y; rw [buildFrom.eq_2 _ _ _ _ _ _ _ h]
def feq (x y : Nat → Fate) : Bool := decide ((x 0).late = (y 0).late) && (decide ((x 0).made = (y 0).made) && (decide ((x 1).late = (y 1).late) && (decide ((x 1).made = (y 1).made) && (decide ((x 2).late = (y 2).late) && (decide ((x 2).made = (y 2).made) && true)))))
theorem eqCells_fleet (x y : Nat → Fate) : eqCells (fleetL x) (fleetL y) = some (feq x y) := by
 simp [fleetL,eqCells,feq]
theorem eqFlat_fleet (x y : Nat → Fate) : EqFlat Tryz.prog 129 (fleetL x) (fleetL y) (feq x y) := by
 have h := eqFlat129 (x 0).late (x 0).made (x 1).late (x 1).made (x 2).late (x 2).made (y 0).late (y 0).made (y 1).late (y 1).made (y 2).late (y 2).made
 unfold feq
 simp only [Bool.and_true]
 simp only [Bool.and_assoc] at h
 exact h
theorem feq_eq {l l' : List Fate} (h3 : l.length ≤ 3) (hl : l.length = l'.length) : feq (fun i => l[i]!) (fun i => l'[i]!) = decide (l = l') := by
 rw [← key_eq h3 hl]
 unfold feq
 simp only [Bool.and_true,Bool.and_assoc]
theorem fleetL_length (x : Nat → Fate) : (fleetL x).length = 6 := rfl
theorem fleetL_flat (x : Nat → Fate) : (fleetL x).all flat = true := rfl
theorem fleetL_take (x : Nat → Fate) : (fleetL x).take 6 = fleetL x := rfl
theorem fleetL_over (x : Nat → Fate) {k : Nat} (hk : k < 3) (e : Fate) : (fleetL x).take (k * 2) ++ [.int .i64 e.late,.int .i64 e.made] ++ (fleetL x).drop (k * 2 + 2) = fleetL fun i => if i = k then e else x i := by
 have : k = 0 ∨ k = 1 ∨ k = 2 := by omega
 rcases this with rfl | rfl | rfl <;> rfl
theorem fleetL_congr {x y : Nat → Fate} (h : ∀ i,i < 3 → x i = y i) : fleetL x = fleetL y := by
 unfold fleetL
 rw [h 0 (by decide),h 1 (by decide),h 2 (by decide)]
theorem getD_app {p : List Fate} {e : Fate} (i : Nat) : (p ++ [e])[i]! = if i = p.length then e else p[i]! := by
 by_cases q : i < p.length
 ·rw [if_neg (by omega),getD_any (by simp; omega),getD_any q,List.getElem_append_left q]
 ·by_cases q2 : i = p.length
  ·subst q2; simp
  ·rw [if_neg q2]
   simp [List.getElem?_append,show ¬ i < p.length from q,show ¬ i - p.length < 1 by omega]
theorem fleetL_none (p : List Fate) : (fleetL fun i => (p ++ [Fate.mk 0 0])[i]!) = fleetL fun i => p[i]! := by
 refine fleetL_congr fun i _ => ?_
 rw [getD_app]
 split
 ·rename_i q; subst q; simp; rfl
 ·rfl
theorem fleetL_set (p : List Fate) (e e' : Fate) (hk : p.length < 3) : (fleetL fun i => (p ++ [e])[i]!).take (p.length * 2) ++ [.int .i64 e'.late,.int .i64 e'.made] ++ (fleetL fun i => (p ++ [e])[i]!).drop (p.length * 2 + 2) = fleetL fun i => (p ++ [e'])[i]! := by
 rw [fleetL_over _ hk]
 refine fleetL_congr fun i _ => ?_
 simp only [getD_app]
 split <;> rfl
structure PreOk (h : RHarb) (p : List Fate) : Prop where
 n : p.length ≤ h.ships.length
 late : ∀ s,s < p.length → 0 ≤ (p[s]!).late ∧ (p[s]!).late ≤ 3
 made : ∀ s,s < p.length → 0 ≤ (p[s]!).made ∧ (p[s]!).made ≤ ((h.ships[s]!).calls.length : Int)
theorem PreOk.full {h : RHarb} {p : List Fate} (hp : PreOk h p) (hn : p.length = h.ships.length) : FOk h p := ⟨hn,hp.late,hp.made⟩
theorem PreOk.nil (h : RHarb) : PreOk h [] := ⟨by simp,fun s hs => by simp at hs,fun s hs => by simp at hs⟩
theorem PreOk.snoc {h : RHarb} {p : List Fate} (hp : PreOk h p) {e : Fate} (hn : p.length < h.ships.length) (h1 : 0 ≤ e.late ∧ e.late ≤ 3) (h2 : 0 ≤ e.made ∧ e.made ≤ ((h.ships[p.length]!).calls.length : Int)) : PreOk h (p ++ [e]) := by
 refine ⟨by simp; omega,fun s hs => ?_,fun s hs => ?_⟩
 ·rw [getD_app]
  simp at hs
  split
  ·exact h1
  ·exact hp.late s (by omega)
 ·rw [getD_app]
  simp at hs
  split
  ·rename_i q; subst q; exact h2
  ·exact hp.made s (by omega)
structure Given (h : RHarb) (b : Nat) (pre fl L : List (List Fate)) : Prop where
 s : ∀ x ∈ L,x ∈ fl ∧ loadsOk h b x = true
 c : ∀ x ∈ fl,loadsOk h b x = true → x ∈ pre ++ L
 n : L.length ≤ fl.length
theorem Given.nil (h : RHarb) (b : Nat) (pre : List (List Fate)) : Given h b pre [] [] := ⟨by simp,by simp,by simp⟩
theorem Given.app {h : RHarb} {b : Nat} {pre fl L fl' L' : List (List Fate)} (g : Given h b pre fl L) (g' : Given h b (pre ++ L) fl' L') : Given h b pre (fl ++ fl') (L ++ L') := by
 refine ⟨fun x hx => ?_,fun x hx ho => ?_,by have := g.n; have := g'.n; simp; omega⟩
 ·rcases List.mem_append.1 hx with hx | hx
  ·exact ⟨List.mem_append_left _ (g.s x hx).1,(g.s x hx).2⟩
  ·exact ⟨List.mem_append_right _ (g'.s x hx).1,(g'.s x hx).2⟩
 ·rw [← List.append_assoc]
  rcases List.mem_append.1 hx with hx | hx
  ·exact List.mem_append_left _ (g.c x hx ho)
  ·exact g'.c x hx ho
def lateFl (p : List Fate) (r : List RShip) (left made late : Int) : List (List Fate) := (fleetsI r left).map fun g => (p ++ [Fate.mk late made]) ++ g
def madeFl (p : List Fate) (s : RShip) (r : List RShip) (left made : Int) (j : Nat) : List (List Fate) := ((List.range j).map fun (i : Nat) => s.lo + i).flatMap fun late => lateFl p r (left - sinksI s made) made late
def allFl (p : List Fate) (s : RShip) (r : List RShip) (left : Int) (q : Nat) : List (List Fate) :=
 ((List.range q).map fun (i : Nat) => (i : Int)).flatMap fun made => if sinksI s made ≤ left then madeFl p s r left made (s.hi - s.lo + 1).toNat else []
theorem madeFl_succ (p : List Fate) (s : RShip) (r : List RShip) (left made : Int) (j : Nat) : madeFl p s r left made (j + 1) = madeFl p s r left made j ++ lateFl p r (left - sinksI s made) made (s.lo + j) := by
 simp [madeFl,List.range_succ]
theorem allFl_succ (p : List Fate) (s : RShip) (r : List RShip) (left : Int) (q : Nat) : allFl p s r left (q + 1) = allFl p s r left q ++ if sinksI s q ≤ left then madeFl p s r left q (s.hi - s.lo + 1).toNat else [] := by
 simp [allFl,List.range_succ]
theorem allFl_all (p : List Fate) (s : RShip) (r : List RShip) (left : Int) : allFl p s r left (s.calls.length + 1) = (fleetsI (s :: r) left).map fun g => p ++ g := by
 unfold allFl fleetsI madeL
 rw [List.map_flatMap]
 refine congrArg (fun f => List.flatMap f _) (funext fun made => ?_)
 split
 ·unfold madeFl lateL lateFl
  rw [List.map_flatMap]
  refine congrArg (fun f => List.flatMap f _) (funext fun late => ?_)
  rw [List.map_map]
  refine List.map_congr_left fun g _ => ?_
  simp
 ·rfl
theorem flatMap_le {α β : Type} {l : List α} {f : α → List β} {n c : Nat} (hl : l.length ≤ n) (h : ∀ x ∈ l,(f x).length ≤ c) : (l.flatMap f).length ≤ n * c := by
 induction l generalizing n with
 | nil => simp
 | cons x l ih =>
  cases n with
  | zero => simp at hl
  | succ n =>
   have h1 := h x (by simp)
   have h2 := ih (n := n) (by simpa using hl) (fun y hy => h y (by simp [hy]))
   rw [List.flatMap_cons,List.length_append,Nat.succ_mul]
   omega
theorem fleetsI_le : ∀ {l : List RShip} {left : Int},(∀ s ∈ l,s.hi - s.lo ≤ 3 ∧ s.calls.length ≤ 3) → (fleetsI l left).length ≤ 16 ^ l.length
 | [],_,_ => by simp [fleetsI]
 | s :: r,left,h => by
  have hs := h s (by simp)
  have ih := fun left => fleetsI_le (l := r) (left := left) fun x hx => h x (by simp [hx])
  unfold fleetsI
  have h1 : (madeL s).length ≤ 4 := by simp [madeL]; omega
  have h2 : (lateL s).length ≤ 4 := by simp [lateL]; omega
  have := flatMap_le (n := 4) (c := 4 * 16 ^ r.length) h1 (f := fun made => if sinksI s made ≤ left then (lateL s).flatMap fun late => (fleetsI r (left - sinksI s made)).map (Fate.mk late made :: ·) else []) fun made _ => by
   split
   ·exact flatMap_le h2 fun late _ => by rw [List.length_map]; exact ih _
   ·simp
  refine Nat.le_trans this ?_
  rw [List.length_cons,Nat.pow_succ]
  omega
theorem lateFl_length (p : List Fate) (r : List RShip) (left made late : Int) : (lateFl p r left made late).length = (fleetsI r left).length := by simp [lateFl]
structure Keeps (S : Nat → Prop) (m m' : Mem) : Prop where
 get : ∀ b x,¬ S b → m b = some x → m' b = some x
instance {S : Nat → Prop} {m m' : Mem} : CoeFun (Keeps S m m') fun _ => ∀ b x,¬ S b → m b = some x → m' b = some x := ⟨Keeps.get⟩
theorem Keeps.refl (S : Nat → Prop) (m : Mem) : Keeps S m m := ⟨fun _ _ _ h => h⟩
theorem Keeps.trans {S : Nat → Prop} {m m' m'' : Mem} (h : Keeps S m m') (k : Keeps S m' m'') : Keeps S m m'' := ⟨fun b x hb hx => k b x hb (h b x hb hx)⟩
theorem Keeps.sub {S S' : Nat → Prop} {m m' : Mem} (h : Keeps S m m') (hs : ∀ b,S b → S' b) : Keeps S' m m' := ⟨fun b x hb hx => h b x (fun q => hb (hs b q)) hx⟩
theorem Keeps.set {S : Nat → Prop} {m : Mem} {b : Nat} {y : Option Box} (hb : S b) : Keeps S m (upd m b y) := by
 refine ⟨fun k x hk hx => ?_⟩
 rw [upd_ne _ _ (fun e => hk (by rw [e]; exact hb))]; exact hx
structure TB where
 bm : Nat
 f : Nat
 la : Nat
 fi : Nat
 nx : Nat
structure TB.Ok (t : TB) : Prop where
 q1 : t.bm ≠ t.f
 q2 : t.bm ≠ t.la
 q3 : t.bm ≠ t.fi
 q4 : t.bm ≠ t.nx
 q5 : t.f ≠ t.la
 q6 : t.f ≠ t.fi
 q7 : t.f ≠ t.nx
 q8 : t.la ≠ t.fi
 q9 : t.la ≠ t.nx
 q10 : t.fi ≠ t.nx
def TB.has (t : TB) (k : Nat) : Prop := k = t.bm ∨ k = t.f ∨ k = t.la ∨ k = t.fi
structure YTok (h : RHarb) (b bm l : Nat) (S : Nat → Prop) (J : List (List Fate) → Mem → Prop) (F : Mem → Prop) : Prop where
 y : ∀ pre x m,pre.length < 4096 → FOk h x → x ∈ fleetsI h.ships h.lost → loadsOk h b x = true → Known h b bm m → J pre m → AYield Tryz.prog l [keyA x,loadsV h b x] m fun r m' => Keeps S m m' ∧ ((r = .bool true ∧ J (pre ++ [x]) m') ∨ (r = .bool false ∧ F m'))
 st : ∀ pre m m',J pre m → (∀ k,S k → m' k = m k) → J pre m'
def nextA (h : RHarb) (b : Nat) (t : TB) (l : Nat) : AV := .fn (.func 91) [] [.eptr [.eptr (lookedL h b t.bm)],.ptr t.f 0,.ptr t.la 0,.ptr t.fi 0,.eptr [.fn (.yield l) [] []],.ptr t.nx 0]
structure THold (h : RHarb) (b : Nat) (t : TB) (l : Nat) (p : List Fate) (pre : List (List Fate)) (m : Mem) : Prop where
 f : m t.f = some (.cells (fleetL fun i => p[i]!))
 la : ∃ lf first,m t.la = some (.cells (fleetL fun i => lf[i]!)) ∧ m t.fi = some (.cells [.bool first]) ∧ (first = false → lf.length = h.ships.length ∧ (loadsOk h b lf = true → lf ∈ pre))
 nx : m t.nx = some (.cells [nextA h b t l])
 kn : Known h b t.bm m
theorem next_leaf (h : RHarb) (hh : HOk h) (b : Nat) (hb : b < 2 ^ 32) (t : TB) (ht : t.Ok) {l : Nat} {S : Nat → Prop} {J : List (List Fate) → Mem → Prop} {F : Mem → Prop} (hy : YTok h b t.bm l S J F) (hS : ∀ k,t.has k ∨ k = t.nx → ¬ S k)
  (p : List Fate) (hp : FOk h p) (hin : p ∈ fleetsI h.ships h.lost) (left : Int) (pre : List (List Fate)) (hn : pre.length < 4096) (m : Mem) (hm : THold h b t l p pre m) (hJ : J pre m) :
  ACall Tryz.prog 91 [.int .i64 h.ships.length,.int .i64 left,.eptr [.eptr (lookedL h b t.bm)],.ptr t.f 0,.ptr t.la 0,.ptr t.fi 0,.eptr [.fn (.yield l) [] []],.ptr t.nx 0] m fun r m' =>
   Keeps (fun k => S k ∨ t.has k) m m' ∧ Known h b t.bm m' ∧ ((r = .bool true ∧ ∃ L,THold h b t l p (pre ++ L) m' ∧ J (pre ++ L) m' ∧ Given h b pre [p] L) ∨ (r = .bool false ∧ F m')) := by
 obtain ⟨hf,⟨lf,first,hla,hfi,hfirst⟩,hnx,hkn⟩ := hm
 have h3 := hh.n
 have hpn := hp.n
 have ht6 := fleetL_take
 have hl6 := fleetL_length
 have hf6 := fleetL_flat
 have hec := eqCells_fleet
 have hef := eqFlat_fleet (fun i => p[i]!) (fun i => lf[i]!)
 have hload := fun m hk => loads_c h hh b hb t.bm p hp m hk
 have hyy := hy.y pre p
 obtain ⟨V,hV,hV4,hVf⟩ : ∃ V,loadsV h b p = .agg V ∧ V.length = 4 ∧ V.all flat = true := ⟨_,rfl,nL_length _ _,rfl⟩
 have hVt : V.take 4 = V := List.take_of_length_le (by omega)
 rw [hV] at hload hyy
 have nS : ∀ k,S k → k ≠ t.bm ∧ k ≠ t.f ∧ k ≠ t.la ∧ k ≠ t.fi ∧ k ≠ t.nx := fun k hk =>
  ⟨fun e => hS k (.inl (.inl e)) hk,fun e => hS k (.inl (.inr (.inl e))) hk,fun e => hS k (.inl (.inr (.inr (.inl e)))) hk,fun e => hS k (.inl (.inr (.inr (.inr e)))) hk,fun e => hS k (.inr e) hk⟩
 obtain ⟨q1,q2,q3,q4,q5,q6,q7,q8,q9,q10⟩ := ht
 simp only [keyA,fleetA] at hload hyy
 simp only [lookedL] at hload ⊢
 (refine acall_intro (E := envC (modeAt [11,13] []) false []) (envCOk _ _ _) rfl Tryz.func91 rfl Tryz.call91 (by kernel_rfl) (by simp [Tryz.ntmps91]) ?_; simp only [Tryz.f91];  simp(maxSteps:=9^9)only[↓VX,VQ,seval])
 simp(maxSteps:=9^9)only[↓VX,VQ,seval,hf,hla,hfi,ht6,hl6,hf6,hec,eq_self]
 intro _
 refine ⟨hef,?_⟩
 have hm0 : THold h b t l p pre m := ⟨hf,⟨lf,first,hla,hfi,hfirst⟩,hnx,hkn⟩
 refine ⟨fun qe => ⟨fun q0 => ?_,fun q0 => ?_⟩,fun qe => ?_⟩
 ·obtain ⟨e1,e2⟩ := hfirst q0
  rw [feq_eq (by omega) (by omega),decide_eq_true_eq] at qe
  refine ⟨Keeps.refl _ _,hkn,.inl ⟨[],?_⟩⟩
  rw [List.append_nil]
  refine ⟨hm0,hJ,by simp,fun x hx ho => ?_,by simp⟩
  rw [List.mem_singleton.1 hx] at ho ⊢
  rw [List.append_nil,qe]
  rw [qe] at ho
  exact e2 ho
 all_goals
  (refine adraw (by first | exact envOk _ | exact envCOk _ _ _) mixed [⟨true,false,9⟩,⟨false,false,0⟩,⟨false,false,0⟩] (by kernel_rfl) ?_; show vcOpsD _ _ _ (_ :: _) _ _)
  simp(maxSteps:=9^9)only[↓VX,VQ,seval,hf,hla,hfi,ht6,hl6,hf6,hec,eq_self,hidM,isLook,maskM,q5,q6,q8,q5.symm,q6.symm,q8.symm]
  repeat'(first|intro _|apply And.intro)
  all_goals try first|omega|(simp only[LL];omega)|exact nlC (by decide) _|exact nbC rfl
  refine ACall.told (hload _ ?_) ?_
  ·obtain ⟨ls,k1,k2⟩ := hkn
   exact ⟨ls,k1,by rw [upd_ne _ _ q2,upd_ne _ _ q3]; exact k2⟩
  rintro r m2 ⟨hr,hk2,hm2⟩
  have g1 : m2 t.f = some (.cells (fleetL fun i => p[i]!)) := by rw [hm2 _ q1.symm,upd_ne _ _ q5,upd_ne _ _ q6]; exact hf
  have g2 : m2 t.la = some (.cells (fleetL fun i => p[i]!)) := by rw [hm2 _ q2.symm,upd_same]; rfl
  have g3 : m2 t.fi = some (.cells [.bool false]) := by rw [hm2 _ q3.symm,upd_ne _ _ q8.symm,upd_same]
  have g4 : m2 t.nx = some (.cells [nextA h b t l]) := by rw [hm2 _ q4.symm,upd_ne _ _ q9.symm,upd_ne _ _ q10.symm]; exact hnx
  have g5 : ∀ k,S k → m2 k = m k := fun k hk => by
   obtain ⟨n1,n2,n3,n4,n5⟩ := nS k hk
   rw [hm2 _ n1,upd_ne _ _ n3,upd_ne _ _ n4]
  have g6 : Keeps (fun k => S k ∨ t.has k) m m2 := by
   refine ⟨fun k x hk hx => ?_⟩
   have n1 : k ≠ t.bm := fun e => hk (.inr (.inl e))
   have n3 : k ≠ t.la := fun e => hk (.inr (.inr (.inr (.inl e))))
   have n4 : k ≠ t.fi := fun e => hk (.inr (.inr (.inr (.inr e))))
   rw [hm2 _ n1,upd_ne _ _ n3,upd_ne _ _ n4]; exact hx
  have hJ2 := hy.st pre m m2 hJ g5
  rcases hr with ⟨ok,rfl⟩ | ⟨nok,rfl⟩
  ·simp(maxSteps:=9^9)only[↓VX,VQ,seval,hV4,hVf,hVt,g1,hl6,ht6]
   repeat'(first|intro _|apply And.intro)
   all_goals try first|omega|(simp only[LL];omega)|exact nlC (by decide) _|exact nbC rfl
   refine AYield.mono (hyy m2 hn hp hin ok hk2 hJ2) fun r m3 hr => ?_
   obtain ⟨hk3,hr⟩ := hr
   have hkn3 : Known h b t.bm m3 := by
    obtain ⟨ls,k1,k2⟩ := hk2
    exact ⟨ls,k1,hk3 _ _ (fun e => hS _ (.inl (.inl rfl)) e) k2⟩
   have hkk := g6.trans (hk3.sub fun k hk => .inl hk)
   rcases hr with ⟨rfl,hJ3⟩ | ⟨rfl,hF⟩
   ·simp(maxSteps:=9^9)only[↓VX,VQ,seval]
    refine ⟨hkk,hkn3,.inl ⟨[p],⟨?_,⟨p,false,?_,?_,fun _ => ⟨hpn,fun _ => by simp⟩⟩,?_,hkn3⟩,hJ3,fun x hx => by rw [List.mem_singleton.1 hx]; exact ⟨by simp,ok⟩,fun x hx _ => by rw [List.mem_singleton.1 hx]; simp,by simp⟩⟩
    ·exact hk3 _ _ (fun e => hS _ (.inl (.inr (.inl rfl))) e) g1
    ·exact hk3 _ _ (fun e => hS _ (.inl (.inr (.inr (.inl rfl)))) e) g2
    ·exact hk3 _ _ (fun e => hS _ (.inl (.inr (.inr (.inr rfl)))) e) g3
    ·exact hk3 _ _ (fun e => hS _ (.inr rfl) e) g4
   ·simp(maxSteps:=9^9)only[↓VX,VQ,seval]
    exact ⟨hkk,hkn3,.inr hF⟩
  ·simp(maxSteps:=9^9)only[↓VX,VQ,seval]
   refine ⟨g6,hk2,.inl ⟨[],?_⟩⟩
   rw [List.append_nil]
   exact ⟨⟨g1,⟨p,false,g2,g3,fun _ => ⟨hpn,fun e => by rw [nok] at e; cases e⟩⟩,g4,hk2⟩,hJ2,by simp,fun x hx ho => (by rw [List.mem_singleton.1 hx,nok] at ho; cases ho),by simp⟩
theorem madeFl_mono (p : List Fate) (s : RShip) (r : List RShip) (left made : Int) : ∀ {i j : Nat},i ≤ j → (madeFl p s r left made i).length ≤ (madeFl p s r left made j).length := by
 intro i j h
 induction h with
 | refl => exact Nat.le_refl _
 | step _ ih => rw [madeFl_succ,List.length_append]; omega
theorem allFl_mono (p : List Fate) (s : RShip) (r : List RShip) (left : Int) : ∀ {i j : Nat},i ≤ j → (allFl p s r left i).length ≤ (allFl p s r left j).length := by
 intro i j h
 induction h with
 | refl => exact Nat.le_refl _
 | step _ ih => rw [allFl_succ,List.length_append]; omega
theorem room {p : List Fate} {s : RShip} {r : List RShip} {left : Int} {q j : Nat} (hq : q ≤ s.calls.length) (hj : j < (s.hi - s.lo + 1).toNat) (hle : sinksI s q ≤ left) :
  (allFl p s r left q).length + (madeFl p s r left q j).length + (fleetsI r (left - sinksI s q)).length ≤ (fleetsI (s :: r) left).length := by
 have h1 := allFl_mono p s r left (show q + 1 ≤ s.calls.length + 1 by omega)
 rw [allFl_all,List.length_map,allFl_succ,if_pos hle,List.length_append] at h1
 have h2 := madeFl_mono p s r left q (show j + 1 ≤ (s.hi - s.lo + 1).toNat by omega)
 rw [madeFl_succ,List.length_append,lateFl_length] at h2
 omega
def NextR (h : RHarb) (b : Nat) (t : TB) (l : Nat) (S : Nat → Prop) (J : List (List Fate) → Mem → Prop) (F : Mem → Prop) (p : List Fate) (pre fl : List (List Fate)) (m : Mem) (r : AV) (m' : Mem) : Prop :=
 Keeps (fun k => S k ∨ t.has k) m m' ∧ Known h b t.bm m' ∧ ((r = .bool true ∧ ∃ L,THold h b t l p (pre ++ L) m' ∧ J (pre ++ L) m' ∧ Given h b pre fl L) ∨ (r = .bool false ∧ F m'))
theorem next_c (h : RHarb) (hh : HOk h) (b : Nat) (hb : b < 2 ^ 32) (t : TB) (ht : t.Ok) {l : Nat} {S : Nat → Prop} {J : List (List Fate) → Mem → Prop} {F : Mem → Prop} (hy : YTok h b t.bm l S J F) (hS : ∀ k,t.has k ∨ k = t.nx → ¬ S k) :
  ∀ (n : Nat) (p : List Fate),PreOk h p → p.length + n = h.ships.length → ∀ (left : Int),0 ≤ left → left ≤ 3 → (∀ g ∈ fleetsI (h.ships.drop p.length) left,p ++ g ∈ fleetsI h.ships h.lost) → ∀ (pre : List (List Fate)) (m : Mem),pre.length + (fleetsI (h.ships.drop p.length) left).length ≤ 4096 → THold h b t l p pre m → J pre m →
  ACall Tryz.prog 91 [.int .i64 p.length,.int .i64 left,.eptr [.eptr (lookedL h b t.bm)],.ptr t.f 0,.ptr t.la 0,.ptr t.fi 0,.eptr [.fn (.yield l) [] []],.ptr t.nx 0] m
   (NextR h b t l S J F p pre ((fleetsI (h.ships.drop p.length) left).map fun g => p ++ g) m)
 | 0,p,hp,hn,left,hl0,hl3,hin,pre,m,hroom,hm,hJ => by
  have hpn : p.length = h.ships.length := by omega
  rw [List.drop_eq_nil_of_le (by omega)] at hroom hin ⊢
  simp only [fleetsI,List.map_cons,List.map_nil,List.append_nil,List.length_cons,List.length_nil] at hroom ⊢
  have := next_leaf h hh b hb t ht hy hS p (hp.full hpn) (by simpa [fleetsI] using hin) left pre (by omega) m hm hJ
  rw [← hpn] at this
  exact this
 | n + 1,p,hp,hn,left,hl0,hl3,hin,pre,m,hroom,hm,hJ => by
  have ih := next_c h hh b hb t ht hy hS n
  have hk : p.length < h.ships.length := by omega
  have h3 := hh.n
  have hso := hh.ship p.length hk
  have hdrop : h.ships.drop p.length = h.ships[p.length]! :: h.ships.drop (p.length + 1) := by rw [getD_any hk,List.drop_eq_getElem_cons hk]
  rw [hdrop] at hroom hin ⊢
  have hk3 : p.length < 3 := by omega
  have hpn := fun (e : Fate) => PreOk.snoc (e := e) hp hk
  have hla := hso.late
  have hca := hso.n
  have nS : ∀ k,S k → k ≠ t.f := fun k hk e => hS k (.inl (.inr (.inl e))) hk
  obtain ⟨q1,q2,q3,q4,q5,q6,q7,q8,q9,q10⟩ := ht
  have hnk : ((p.length : Int) = (h.ships.length : Int)) = False := by simp; omega
  simp only [lookedL]
  (refine acall_intro (E := envC (modeAt [11,13] []) false []) (envCOk _ _ _) rfl Tryz.func91 rfl Tryz.call91 (by kernel_rfl) (by simp [Tryz.ntmps91]) ?_; simp only [Tryz.f91];  simp(maxSteps:=9^9)only[↓VX,VQ,seval,hnk])
  repeat'(first|intro _|apply And.intro)
  ·omega
  ·omega
  ·omega
  ·omega
  generalize hs : h.ships[p.length]! = s at *
  generalize hr : h.ships.drop (p.length + 1) = r at *
  refine aloop (envCOk _ _ _) (fun x : Nat × List (List Fate) × Fate × Mem => ⟨[(0,.v (.int .i64 p.length)),(1,.v (.int .i64 left)),(2,.v (.eptr [.eptr (lookedL h b t.bm)])),(3,.v (.ptr t.f 0)),(4,.v (.ptr t.la 0)),(5,.v (.ptr t.fi 0)),(6,.v (.eptr [.fn (.yield l) [] []])),(7,.v (.ptr t.nx 0)),(13,.loc 13 0),(58,.v (.int .i64 ((s.calls.length : Int) + 1))),(59,.v (.int .i64 x.1))],[],
    [(13,[.str s.name,.int .i64 s.sails,.slice 2 (s.calls.map callA),.int .i64 s.lo,.int .i64 s.hi])],x.2.2.2⟩)
   (fun x => x.1 ≤ s.calls.length + 1 ∧ THold h b t l (p ++ [x.2.2.1]) (pre ++ x.2.1) x.2.2.2 ∧ J (pre ++ x.2.1) x.2.2.2 ∧ Given h b pre (allFl p s r left x.1) x.2.1 ∧ Keeps (fun k => S k ∨ t.has k) m x.2.2.2)
   (fun x => s.calls.length + 1 - x.1) (0,[],⟨0,0⟩,m) (fun _ => rfl) ?_ (by (simp only [FE,↓FP,seval]); try simp [lookedL,overlay,shipL]) ?_
  ·refine ⟨by simp,⟨by rw [fleetL_none]; exact hm.f,by simpa using hm.la,hm.nx,hm.kn⟩,by simpa using hJ,Given.nil _ _ _,Keeps.refl _ _⟩
  rintro ⟨q,L,e0,mq⟩ ⟨hq,hmq,hJq,hgq,hkq⟩
  simp only at hq hmq hJq hgq hkq
  simp only [lookedL]
  simp(maxSteps:=9^9)only[↓VX,VQ,seval,buildV]
  refine ⟨fun ql _ => ⟨?_,fun qd => ?_,fun qd => ?_⟩,fun ql => ?_⟩
  ·have := eqFlat127 0 q 0 s.calls.length
   simpa only [decide_true,Bool.true_and,Bool.and_true] using this
  rotate_left 2
  ·have hqe : q = s.calls.length + 1 := by omega
   have gf := hmq.f
   have hfl := fleetL_length fun i => (p ++ [e0])[i]!
   have hset := fleetL_set p e0 ⟨0,0⟩ hk3
   simp only at hset
   rw [fleetL_none] at hset
   simp(maxSteps:=9^9)only[↓VX,VQ,seval,gf,hset,hfl]
   refine ⟨⟨by omega,by omega⟩,by omega,?_⟩
   have hk2 : Known h b t.bm (upd mq t.f (some (.cells (fleetL fun i => p[i]!)))) := by obtain ⟨ls,k1,k2⟩ := hmq.kn; exact ⟨ls,k1,by rw [upd_ne _ _ q1]; exact k2⟩
   refine ⟨hkq.trans (Keeps.set (.inr (.inr (.inl rfl)))),hk2,.inl ⟨rfl,L,⟨upd_same _ _ _,by rw [upd_ne _ _ q5.symm,upd_ne _ _ q6.symm]; exact hmq.la,by rw [upd_ne _ _ q7.symm]; exact hmq.nx,hk2⟩,hy.st _ _ _ hJq fun k hk => upd_ne _ _ (nS k hk),?_⟩⟩
   rw [← allFl_all,← hqe]
   exact hgq
  ·have hsk : sinksI s q = 1 := by
    unfold sinksI
    rw [if_pos]; have qd' : ¬ (q : Int) = s.calls.length := by simpa using qd
    omega
   refine aloop (envCOk _ _ _) (fun x : Nat × List (List Fate) × Fate × Mem => ⟨[(0,.v (.int .i64 p.length)),(1,.v (.int .i64 left)),(2,.v (.eptr [.eptr (lookedL h b t.bm)])),(3,.v (.ptr t.f 0)),(4,.v (.ptr t.la 0)),(5,.v (.ptr t.fi 0)),(6,.v (.eptr [.fn (.yield l) [] []])),(7,.v (.ptr t.nx 0)),(13,.loc 13 0),(14,.v (.int .i64 q)),(15,.v (.int .i64 1)),(16,.v (.int .i64 (s.lo + x.1))),(58,.v (.int .i64 ((s.calls.length : Int) + 1))),(59,.v (.int .i64 q))],[],
     [(13,[.str s.name,.int .i64 s.sails,.slice 2 (s.calls.map callA),.int .i64 s.lo,.int .i64 s.hi])],x.2.2.2⟩)
    (fun x => x.1 ≤ (s.hi - s.lo + 1).toNat ∧ (¬ 1 ≤ left → x.1 = 0) ∧ THold h b t l (p ++ [x.2.2.1]) (pre ++ L ++ x.2.1) x.2.2.2 ∧ J (pre ++ L ++ x.2.1) x.2.2.2 ∧ Given h b (pre ++ L) (madeFl p s r left q x.1) x.2.1 ∧ Keeps (fun k => S k ∨ t.has k) m x.2.2.2)
    (fun x => (s.hi - s.lo + 1).toNat - x.1) (0,[],e0,mq) (fun _ => rfl) ?_ (by (simp only [FE,↓FP,seval]); try simp [lookedL]) ?_
   ·exact ⟨by simp,fun _ => rfl,by simpa using hmq,by simpa using hJq,Given.nil _ _ _,hkq⟩
   rintro ⟨j,L',e1,mj⟩ ⟨hj,hj0,hmj,hJj,hgj,hkj⟩
   simp only at hj hj0 hmj hJj hgj hkj
   simp only [lookedL]
   have gf := hmj.f
   have gx := hmj.nx
   have hfl := fleetL_length fun i => (p ++ [e1])[i]!
   have hset := fleetL_set p e1 ⟨s.lo + j,q⟩ hk3
   simp only at hset
   simp only [nextA,lookedL] at gx
   simp(maxSteps:=9^9)only[↓VX,VQ,seval,gf,gx,q7,q7.symm,hset,hfl,buildV]
   repeat'(first|intro _|apply And.intro)
   all_goals try omega
   ·have hle : sinksI s q ≤ left := by rw [hsk]; omega
    have hjl : j < (s.hi - s.lo + 1).toNat := by omega
    have hroom2 := room (p := p) (r := r) (show q ≤ s.calls.length by omega) hjl hle
    have hn1 := hgq.n
    have hin' : ∀ g ∈ fleetsI r (left - 1),(p ++ [Fate.mk (s.lo + j) q]) ++ g ∈ fleetsI h.ships h.lost := fun g hg => by
     rw [List.append_assoc]
     refine hin _ ?_
     unfold fleetsI
     simp only [List.mem_flatMap]
     refine ⟨q,mem_madeL.2 (by omega),?_⟩
     rw [if_pos hle,hsk]
     simp only [List.mem_flatMap,List.mem_map]
     exact ⟨s.lo + j,mem_lateL.2 (by omega),g,hg,rfl⟩
    have hn2 := hgj.n
    have hlen' : (p ++ [Fate.mk (s.lo + j) q]).length = p.length + 1 := by simp
    have hp' := hpn ⟨s.lo + j,q⟩ (by dsimp only; omega) (by dsimp only; omega)
    have hih := ih (p ++ [Fate.mk (s.lo + j) q]) hp' (by rw [hlen']; omega) (left - 1) (by omega) (by omega) (by rw [hlen',hr]; exact hin') (pre ++ L ++ L') (upd mj t.f (some (.cells (fleetL fun i => (p ++ [Fate.mk (s.lo + j) q])[i]!))))
     (by rw [hlen',hr,← hsk]; simp only [List.length_append]; omega) ⟨upd_same _ _ _,by rw [upd_ne _ _ q5.symm,upd_ne _ _ q6.symm]; exact hmj.la,by rw [upd_ne _ _ q7.symm]; exact hmj.nx,by obtain ⟨ls,k1,k2⟩ := hmj.kn; exact ⟨ls,k1,by rw [upd_ne _ _ q1]; exact k2⟩⟩
     (hy.st _ _ _ hJj fun k hk => upd_ne _ _ (nS k hk))
    rw [hlen',hr,show ((p.length + 1 : Nat) : Int) = (p.length : Int) + 1 by omega] at hih
    simp only [lookedL] at hih
    refine ACall.told hih ?_
    rintro r2 m2 ⟨k1,k2,⟨rfl,L2,g1,g2,g3⟩ | ⟨rfl,hF⟩⟩
    ·simp(maxSteps:=9^9)only[↓VX,VQ,seval]
     repeat'(first|intro _|apply And.intro)
     all_goals try omega
     refine ⟨(j + 1,L' ++ L2,⟨s.lo + j,q⟩,m2),⟨by dsimp only; omega,fun hn => absurd (by omega) hn,by rw [← List.append_assoc]; exact g1,by rw [← List.append_assoc]; exact g2,by rw [madeFl_succ]; exact hgj.app (by unfold lateFl; rw [hsk]; exact g3),?_⟩,by dsimp only; omega,?_⟩
     ·exact hkj.trans ((Keeps.set (.inr (.inr (.inl rfl)))).trans k1)
     ·(simp only [FE,↓FP,seval])
      simp; omega
    ·simp(maxSteps:=9^9)only[↓VX,VQ,seval]
     exact ⟨hkj.trans ((Keeps.set (.inr (.inr (.inl rfl)))).trans k1),k2,.inr ⟨rfl,hF⟩⟩
   ·refine ⟨(q + 1,L ++ L',e1,mj),⟨by dsimp only; omega,by rw [← List.append_assoc]; exact hmj,by rw [← List.append_assoc]; exact hJj,?_,hkj⟩,by dsimp only; omega,?_⟩
    ·rw [allFl_succ,hsk]
     have h0 := hj0 (by assumption)
     subst h0
     rw [if_neg (by assumption)]
     exact hgq.app hgj
    ·(simp only [FE,↓FP,seval])
     simp
   ·refine ⟨(q + 1,L ++ L',e1,mj),⟨by dsimp only; omega,by rw [← List.append_assoc]; exact hmj,by rw [← List.append_assoc]; exact hJj,?_,hkj⟩,by dsimp only; omega,?_⟩
    ·rw [allFl_succ,hsk]
     have hjN : j = (s.hi - s.lo + 1).toNat := by omega
     have hle : 1 ≤ left := by apply Decidable.byContradiction; intro hn; have := hj0 hn; omega
     rw [if_pos hle,← hjN]
     exact hgq.app hgj
    ·(simp only [FE,↓FP,seval])
     simp
  ·have hsk : sinksI s q = 0 := by
    unfold sinksI
    rw [if_neg]; have qd' : (q : Int) = s.calls.length := by simpa using qd
    omega
   refine aloop (envCOk _ _ _) (fun x : Nat × List (List Fate) × Fate × Mem => ⟨[(0,.v (.int .i64 p.length)),(1,.v (.int .i64 left)),(2,.v (.eptr [.eptr (lookedL h b t.bm)])),(3,.v (.ptr t.f 0)),(4,.v (.ptr t.la 0)),(5,.v (.ptr t.fi 0)),(6,.v (.eptr [.fn (.yield l) [] []])),(7,.v (.ptr t.nx 0)),(13,.loc 13 0),(14,.v (.int .i64 q)),(15,.v (.int .i64 0)),(16,.v (.int .i64 (s.lo + x.1))),(58,.v (.int .i64 ((s.calls.length : Int) + 1))),(59,.v (.int .i64 q))],[],
     [(13,[.str s.name,.int .i64 s.sails,.slice 2 (s.calls.map callA),.int .i64 s.lo,.int .i64 s.hi])],x.2.2.2⟩)
    (fun x => x.1 ≤ (s.hi - s.lo + 1).toNat ∧ (¬ 0 ≤ left → x.1 = 0) ∧ THold h b t l (p ++ [x.2.2.1]) (pre ++ L ++ x.2.1) x.2.2.2 ∧ J (pre ++ L ++ x.2.1) x.2.2.2 ∧ Given h b (pre ++ L) (madeFl p s r left q x.1) x.2.1 ∧ Keeps (fun k => S k ∨ t.has k) m x.2.2.2)
    (fun x => (s.hi - s.lo + 1).toNat - x.1) (0,[],e0,mq) (fun _ => rfl) ?_ (by (simp only [FE,↓FP,seval]); try simp [lookedL]) ?_
   ·exact ⟨by simp,fun _ => rfl,by simpa using hmq,by simpa using hJq,Given.nil _ _ _,hkq⟩
   rintro ⟨j,L',e1,mj⟩ ⟨hj,hj0,hmj,hJj,hgj,hkj⟩
   simp only at hj hj0 hmj hJj hgj hkj
   simp only [lookedL]
   have gf := hmj.f
   have gx := hmj.nx
   have hfl := fleetL_length fun i => (p ++ [e1])[i]!
   have hset := fleetL_set p e1 ⟨s.lo + j,q⟩ hk3
   simp only at hset
   simp only [nextA,lookedL] at gx
   simp(maxSteps:=9^9)only[↓VX,VQ,seval,gf,gx,q7,q7.symm,hset,hfl,buildV]
   repeat'(first|intro _|apply And.intro)
   all_goals try omega
   ·have hle : sinksI s q ≤ left := by rw [hsk]; omega
    have hjl : j < (s.hi - s.lo + 1).toNat := by omega
    have hroom2 := room (p := p) (r := r) (show q ≤ s.calls.length by omega) hjl hle
    have hn1 := hgq.n
    have hin' : ∀ g ∈ fleetsI r (left - 0),(p ++ [Fate.mk (s.lo + j) q]) ++ g ∈ fleetsI h.ships h.lost := fun g hg => by
     rw [List.append_assoc]
     refine hin _ ?_
     unfold fleetsI
     simp only [List.mem_flatMap]
     refine ⟨q,mem_madeL.2 (by omega),?_⟩
     rw [if_pos hle,hsk]
     simp only [List.mem_flatMap,List.mem_map]
     exact ⟨s.lo + j,mem_lateL.2 (by omega),g,hg,rfl⟩
    have hn2 := hgj.n
    have hlen' : (p ++ [Fate.mk (s.lo + j) q]).length = p.length + 1 := by simp
    have hp' := hpn ⟨s.lo + j,q⟩ (by dsimp only; omega) (by dsimp only; omega)
    have hih := ih (p ++ [Fate.mk (s.lo + j) q]) hp' (by rw [hlen']; omega) (left - 0) (by omega) (by omega) (by rw [hlen',hr]; exact hin') (pre ++ L ++ L') (upd mj t.f (some (.cells (fleetL fun i => (p ++ [Fate.mk (s.lo + j) q])[i]!))))
     (by rw [hlen',hr,← hsk]; simp only [List.length_append]; omega) ⟨upd_same _ _ _,by rw [upd_ne _ _ q5.symm,upd_ne _ _ q6.symm]; exact hmj.la,by rw [upd_ne _ _ q7.symm]; exact hmj.nx,by obtain ⟨ls,k1,k2⟩ := hmj.kn; exact ⟨ls,k1,by rw [upd_ne _ _ q1]; exact k2⟩⟩
     (hy.st _ _ _ hJj fun k hk => upd_ne _ _ (nS k hk))
    rw [hlen',hr,show ((p.length + 1 : Nat) : Int) = (p.length : Int) + 1 by omega] at hih
    simp only [lookedL] at hih
    refine ACall.told hih ?_
    rintro r2 m2 ⟨k1,k2,⟨rfl,L2,g1,g2,g3⟩ | ⟨rfl,hF⟩⟩
    ·simp(maxSteps:=9^9)only[↓VX,VQ,seval]
     repeat'(first|intro _|apply And.intro)
     all_goals try omega
     refine ⟨(j + 1,L' ++ L2,⟨s.lo + j,q⟩,m2),⟨by dsimp only; omega,fun hn => absurd (by omega) hn,by rw [← List.append_assoc]; exact g1,by rw [← List.append_assoc]; exact g2,by rw [madeFl_succ]; exact hgj.app (by unfold lateFl; rw [hsk]; exact g3),?_⟩,by dsimp only; omega,?_⟩
     ·exact hkj.trans ((Keeps.set (.inr (.inr (.inl rfl)))).trans k1)
     ·(simp only [FE,↓FP,seval])
      simp; omega
    ·simp(maxSteps:=9^9)only[↓VX,VQ,seval]
     exact ⟨hkj.trans ((Keeps.set (.inr (.inr (.inl rfl)))).trans k1),k2,.inr ⟨rfl,hF⟩⟩
   ·refine ⟨(q + 1,L ++ L',e1,mj),⟨by dsimp only; omega,by rw [← List.append_assoc]; exact hmj,by rw [← List.append_assoc]; exact hJj,?_,hkj⟩,by dsimp only; omega,?_⟩
    ·rw [allFl_succ,hsk]
     have hjN : j = (s.hi - s.lo + 1).toNat := by omega
     have hle : 0 ≤ left := by apply Decidable.byContradiction; intro hn; have := hj0 hn; omega
     rw [if_pos hle,← hjN]
     exact hgq.app hgj
    ·(simp only [FE,↓FP,seval])
     simp
theorem fleets_le {h : RHarb} (hh : HOk h) (left : Int) : (fleetsI h.ships left).length ≤ 4096 := by
 have h3 := hh.n
 refine Nat.le_trans (fleetsI_le fun s hs => ?_) ?_
 ·obtain ⟨i,hi,e⟩ := List.getElem_of_mem hs
  have := hh.ship i hi
  rw [getD_any hi,e] at this
  exact ⟨by have := this.late; omega,this.n⟩
 ·exact Nat.le_trans (Nat.pow_le_pow_right (by decide) h3) (by decide)
theorem truths1_c (h : RHarb) (hh : HOk h) (b : Nat) (hb : b < 2 ^ 32) (bm : Nat) {l : Nat} {S : Nat → Prop} {J : List (List Fate) → Mem → Prop} {F : Mem → Prop} (hy : YTok h b bm l S J F) (m : Mem) (hkn : Known h b bm m) (hS : ∀ k,S k → m k ≠ none) (hbm : ¬ S bm) (hJ : J [] m) :
  ACall Tryz.prog 90 [.fn (.yield l) [] [],.eptr [.eptr (lookedL h b bm)]] m fun _ m' => Keeps (fun k => S k ∨ k = bm) m m' ∧ Known h b bm m' ∧ ((∃ L,J L m' ∧ Given h b [] (fleetsI h.ships h.lost) L) ∨ F m') := by
 have hroom := fleets_le hh h.lost
 have hl := hh.l
 have hbn : m bm ≠ none := by obtain ⟨ls,k1,k2⟩ := hkn; rw [k2]; simp
 have hnext := fun (t : TB) (ht : t.Ok) (e : t.bm = bm) hS => next_c h hh b hb t ht (l := l) (S := S) (J := J) (F := F) (by rw [e]; exact hy) hS h.ships.length [] (PreOk.nil h) (by simp) h.lost hl.1 hl.2 (by simp) []
 simp only [List.length_nil,List.drop_zero,Nat.zero_add,Int.natCast_zero,List.nil_append,List.map_id',lookedL] at hnext
 simp only [lookedL]
 (refine acall_intro (E := envC (modeAt [] [3,4,5,6]) false []) (envCOk _ _ _) rfl Tryz.func90 rfl Tryz.call90 (by kernel_rfl) (by simp [Tryz.ntmps90]) ?_; simp only [Tryz.f90];  simp(maxSteps:=9^9)only[↓VX,VQ,seval])
 intro bf hbf bl hbl bi hbi bx hbx
 have n1 : bm ≠ bf := by rintro rfl; exact hbn hbf
 have n5 : bl ≠ bf := by rintro rfl; simp at hbl
 have hbl' : m bl = none := by rw [if_neg n5] at hbl; exact hbl
 have n2 : bm ≠ bl := by rintro rfl; exact hbn hbl'
 have n8 : bi ≠ bl := by rintro rfl; simp at hbi
 have n6 : bi ≠ bf := by rintro rfl; simp [n8] at hbi
 have hbi' : m bi = none := by simpa [n8,n6] using hbi
 have n3 : bm ≠ bi := by rintro rfl; exact hbn hbi'
 have n10 : bx ≠ bi := by rintro rfl; simp at hbx
 have n9 : bx ≠ bl := by rintro rfl; simp [n10] at hbx
 have n7 : bx ≠ bf := by rintro rfl; simp [n10,n9] at hbx
 have hbx' : m bx = none := by simpa [n10,n9,n7] using hbx
 have n4 : bm ≠ bx := by rintro rfl; exact hbn hbx'
 have htt : TB.Ok ⟨bm,bf,bl,bi,bx⟩ := ⟨n1,n2,n3,n4,n5.symm,n6.symm,n7.symm,n8.symm,n9.symm,n10.symm⟩
 have hSf : ∀ k,(TB.has ⟨bm,bf,bl,bi,bx⟩ k ∨ k = bx) → ¬ S k := by
  rintro k ((rfl | rfl | rfl | rfl) | rfl) hk
  ·exact hbm hk
  ·exact hS _ hk hbf
  ·exact hS _ hk hbl'
  ·exact hS _ hk hbi'
  ·exact hS _ hk hbx'
 have hnn := hnext ⟨bm,bf,bl,bi,bx⟩ htt rfl hSf
 (refine adraw (by first | exact envOk _ | exact envCOk _ _ _) mixed [⟨false,false,0⟩,⟨true,false,0⟩,⟨true,false,0⟩,⟨true,false,0⟩,⟨true,false,0⟩,⟨true,false,0⟩,⟨false,false,2⟩] (by kernel_rfl) ?_; show vcOpsD _ _ _ (_ :: _) _ _)
 simp(maxSteps:=9^9)only[↓VX,VQ,seval,n7,n9,n10]
 repeat'(first|intro _|apply And.intro)
 have keep : ∀ {m4 : Mem},(∀ k,k ≠ bf → k ≠ bl → k ≠ bi → k ≠ bx → m4 k = m k) → Known h b bm m4 ∧ J [] m4 ∧ Keeps (fun _ => False) m m4 := fun {m4} hk => by
  have hne : ∀ k x,m k = some x → k ≠ bf ∧ k ≠ bl ∧ k ≠ bi ∧ k ≠ bx := fun k x hx => ⟨fun e => (by rw [e,hbf] at hx; cases hx),fun e => (by rw [e,hbl'] at hx; cases hx),fun e => (by rw [e,hbi'] at hx; cases hx),fun e => (by rw [e,hbx'] at hx; cases hx)⟩
  refine ⟨?_,hy.st [] m m4 hJ fun k hq => ?_,⟨fun k x _ hx => ?_⟩⟩
  ·obtain ⟨ls,k1,k2⟩ := hkn
   exact ⟨ls,k1,by rw [hk bm n1 n2 n3 n4]; exact k2⟩
  ·exact hk k (fun e => hS k hq (by rw [e]; exact hbf)) (fun e => hS k hq (by rw [e]; exact hbl')) (fun e => hS k hq (by rw [e]; exact hbi')) (fun e => hS k hq (by rw [e]; exact hbx'))
  ·obtain ⟨a1,a2,a3,a4⟩ := hne k x hx
   rw [hk k a1 a2 a3 a4]; exact hx
 refine ACall.mono (hnn _ hroom ?_ ?_) ?_
 ·refine ⟨?_,⟨[],true,?_,?_,fun e => by cases e⟩,?_,?_⟩
  ·simp [upd,n5,n6,n7,n8,n9,n10,n5.symm,n6.symm,n7.symm,n8.symm,n9.symm,n10.symm]; rfl
  ·simp [upd,n5,n6,n7,n8,n9,n10,n5.symm,n6.symm,n7.symm,n8.symm,n9.symm,n10.symm]; rfl
  ·simp [upd,n5,n6,n7,n8,n9,n10,n5.symm,n6.symm,n7.symm,n8.symm,n9.symm,n10.symm]
  ·simp [upd,n5,n6,n7,n8,n9,n10,n5.symm,n6.symm,n7.symm,n8.symm,n9.symm,n10.symm,nextA,lookedL]
  ·exact (keep fun k a1 a2 a3 a4 => by simp [upd,a1,a2,a3,a4]).1
 ·exact (keep fun k a1 a2 a3 a4 => by simp [upd,a1,a2,a3,a4]).2.1
 ·rintro r m' ⟨k1,k2,k3⟩
  simp(maxSteps:=9^9)only[↓VX,VQ,seval]
  refine ⟨⟨fun k x hk hx => ?_⟩,k2,?_⟩
  ·refine k1 k x ?_ ((keep fun k a1 a2 a3 a4 => by simp [upd,a1,a2,a3,a4]).2.2 k x (fun h => h) hx)
   rintro (hs | (rfl | rfl | rfl | rfl))
   ·exact hk (.inl hs)
   ·exact hk (.inr rfl)
   ·rw [hbf] at hx; cases hx
   ·rw [hbl'] at hx; cases hx
   ·rw [hbi'] at hx; cases hx
  ·rcases k3 with ⟨_,L,g1,g2,g3⟩ | ⟨_,hF⟩
   ·exact .inl ⟨L,g2,g3⟩
   ·exact .inr hF
theorem ne_of_some {m : Mem} {b l : Nat} {y : Box} (h : m b = some y) (h0 : m l = none) : b ≠ l := by
 rintro rfl; rw [h0] at h; cases h
theorem truthsF_c (h : RHarb) (b bm : Nat) : PCall Tryz.prog 58 [.eptr (lookedL h b bm)] (.fn (.func 90) [] [.eptr [.eptr (lookedL h b bm)]]) := by
 intro m
 simp only [lookedL]
 (refine acall_intro (E := env fun _ => .imm) (envOk _) rfl Tryz.func58 rfl Tryz.call58 (by kernel_rfl) (by simp [Tryz.ntmps58]) ?_; simp only [Tryz.f58];  simp(maxSteps:=9^9)only[↓VX,VQ,seval])
def anyT (h : RHarb) (b : Nat) : Bool := (fleetsI h.ships h.lost).any (loadsOk h b)
theorem given_none {h : RHarb} {b : Nat} (g : Given h b [] (fleetsI h.ships h.lost) []) : anyT h b = false := by
 unfold anyT
 rw [List.any_eq_false]
 intro x hx ho
 simpa using g.c x hx ho
theorem someT_c (h : RHarb) (hh : HOk h) (b : Nat) (hb : b < 2 ^ 32) (bm : Nat) (m : Mem) (hkn : Known h b bm m) :
  ACall Tryz.prog 66 [.eptr (lookedL h b bm)] m fun r m' => r = .bool (anyT h b) ∧ Known h b bm m' ∧ Keeps (fun k => k = bm) m m' := by
 have htr := truthsF_c h b bm
 have hbn : ∃ y,m bm = some y := by obtain ⟨ls,k1,k2⟩ := hkn; exact ⟨_,k2⟩
 obtain ⟨yb,hbn⟩ := hbn
 have ht1 := fun (l : Nat) (S : Nat → Prop) (J : List (List Fate) → Mem → Prop) (F : Mem → Prop) (hy : YTok h b bm l S J F) (m : Mem) => truths1_c h hh b hb bm hy m
 simp only [lookedL] at htr ht1 ⊢
 (refine acall_intro (E := envC (modeAt [] [2]) false []) (envCOk _ _ _) rfl Tryz.func66 rfl Tryz.call66 (by kernel_rfl) (by simp [Tryz.ntmps66]) ?_; simp only [Tryz.f66];  simp(maxSteps:=9^9)only[↓VX,VQ,seval])
 intro b2 hb2
 (refine ACall.pure (htr) ?_; try simp(maxSteps:=9^9)only[↓VX,VQ,seval])
 have n2 := ne_of_some hbn hb2
 refine arange rfl (f := 90) (first := []) (caps := [.eptr [.eptr (lookedL h b bm)]]) (by simp(maxSteps:=9^9)only[↓VX,VQ,seval,lookedL]) ?_
 intro l hl
 have hl2 : l ≠ b2 := by rintro rfl; simp [upd] at hl
 have hl0 : m l = none := by simpa [upd,hl2] using hl
 have nl := ne_of_some hbn hl0
 generalize hR : LoopA.mk _ _ _ _ _ = R
 have hyok : YTok h b bm l (fun k => k = l ∨ k = b2) (fun pre m1 => pre = [] ∧ m1 l = some (.loop .ready none R) ∧ m1 b2 = some (.cells [.bool false]))
   (fun m1 => anyT h b = true ∧ m1 l = some (.loop .done (some .ret) R) ∧ m1 b2 = some (.cells [.bool true])) := by
  refine ⟨fun pre x m1 hn hx hin ok hk hJ => ?_,fun pre m1 m2 hJ hs => ?_⟩
  ·obtain ⟨rfl,j3,j4⟩ := hJ
   subst hR
   refine ayield (E := envC (modeAt [] [2]) true []) (envCOk _ _ _) rfl j3 rfl (by rfl) (by rfl) (by rfl) ?_
   simp(maxSteps:=9^9)only[↓VX,VQ,seval,j3,j4,hl2,hl2.symm]
   have hany : anyT h b = true := by unfold anyT; rw [List.any_eq_true]; exact ⟨x,hin,ok⟩
   refine ⟨⟨fun k y hq hy => ?_⟩,.inr hany⟩
   simp only [not_or] at hq
   rw [upd_ne _ _ hq.1,upd_ne _ _ hq.2,upd_ne _ _ hq.1]; exact hy
  ·obtain ⟨rfl,j3,j4⟩ := hJ
   exact ⟨rfl,by rw [hs l (.inl rfl)]; exact j3,by rw [hs b2 (.inr rfl)]; exact j4⟩
 have hdom : ∀ k y,m k = some y → k ≠ l ∧ k ≠ b2 := fun k y hy => ⟨ne_of_some hy hl0,ne_of_some hy hb2⟩
 refine ACall.mono (ht1 l _ _ _ hyok _ ?_ ?_ ?_ ?_) ?_ <;> (try dsimp only)
 ·obtain ⟨ls,k1,k2⟩ := hkn
  exact ⟨ls,k1,by rw [upd_ne _ _ nl,upd_ne _ _ n2]; exact k2⟩
 ·rintro k (rfl | rfl)
  ·rw [upd_same]; simp
  ·rw [upd_ne _ _ hl2.symm,upd_same]; simp
 ·rintro (e | e)
  ·exact nl e
  ·exact n2 e
 ·exact ⟨rfl,upd_same _ _ _,by rw [upd_ne _ _ hl2.symm,upd_same]⟩
 ·rintro r m' ⟨k1,k2,k3⟩
  have kk : Keeps (fun k => k = bm) m m' := by
   refine ⟨fun k y hq hy => ?_⟩
   obtain ⟨a1,a2⟩ := hdom k y hy
   exact k1 k y (by rintro ((e | e) | e); exact a1 e; exact a2 e; exact hq e) (by rw [upd_ne _ _ a1,upd_ne _ _ a2]; exact hy)
  clear ht1 hyok
  rcases k3 with ⟨L,⟨rfl,j3,j4⟩,g⟩ | ⟨hany,j3,j4⟩
  ·have hno := given_none g
   simp(maxSteps:=9^9)only[↓VX,VQ,seval,j3,j4,hl2,hl2.symm]
   refine ⟨by rw [hno],?_,⟨fun k y hq hy => ?_⟩⟩
   ·obtain ⟨ls,q1,q2⟩ := k2
    exact ⟨ls,q1,by rw [upd_ne _ _ n2,upd_ne _ _ nl]; exact q2⟩
   ·obtain ⟨a1,a2⟩ := hdom k y hy
    rw [upd_ne _ _ a2,upd_ne _ _ a1]; exact kk k y hq hy
  ·simp(maxSteps:=9^9)only[↓VX,VQ,seval,j3,j4,hl2,hl2.symm]
   refine ⟨by rw [hany],?_,⟨fun k y hq hy => ?_⟩⟩
   ·obtain ⟨ls,q1,q2⟩ := k2
    exact ⟨ls,q1,by rw [upd_ne _ _ nl]; exact q2⟩
   ·obtain ⟨a1,a2⟩ := hdom k y hy
    rw [upd_ne _ _ a1]; exact kk k y hq hy
end Go.Proofs.YteppmjlfpniiaaaGreat.Abs
