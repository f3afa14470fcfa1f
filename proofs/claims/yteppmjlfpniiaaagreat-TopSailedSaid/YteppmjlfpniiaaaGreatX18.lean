/- Lemmas for the statements of this seat (X18): they hold without conditions beyond those that each one states. -/
import Derived.Test.YteppmjlfpniiaaaGreatX17
import Derived.Test.YteppmjlfpniiaaaGreatX12
import Derived.Test.YteppmjlfpniiaaaGreatX6
import Derived.Test.YteppmjlfpniiaaaGreatX19
/- Contracts: Wrong. -/
namespace Go.Proofs.YteppmjlfpniiaaaGreat.Abs
set_option linter.unusedSimpArgs false
set_option maxHeartbeats 4000000
set_option maxRecDepth 100000
open Go Go.RowKit Go.Proofs
theorem bestTo_succ (h : RHarb) (k : Nat) : bestTo h (k + 1) = match bestTo h k with
  | none => if anyT h k = true then some (listTo k h.reports.length) else none
  | some b => if ordB (listTo k h.reports.length) b = true then some b else if anyT h k = true then some (listTo k h.reports.length) else some b := rfl
theorem wrong_top (h : RHarb) (hs : hnamesFit h) : PCall Tryz.prog 25 [harbA h] (.tuple [ints (wrongR h).1,.int .i64 (wrongR h).2]) := by
 intro m
 refine ACall.forget ?_
 have hck := check_c h hs
 have hW : wrongR h = if (checkH h).2.2 = 0 then wrongOf (wrongFrom h 0) else ([],(checkH h).2.2) := rfl
 have hok := fun (q : (checkH h).2.2 = 0) => hok_check q
 generalize hX : wrongR h = X at *
 generalize hC : checkH h = C at *
 simp only [harbA,harbL,ints] at hck ⊢
 (refine acall_intro (E := env fun _ => .imm) (envOk _) rfl Tryz.func25 rfl Tryz.call25 (by kernel_rfl) (by simp [Tryz.ntmps25]) ?_; simp only [Tryz.f25];  simp(maxSteps:=9^9)only[↓VX,VQ,seval])
 ((refine ACall.pure (hck) ?_; try simp(maxSteps:=9^9)only[↓VX,VQ,seval]); try simp(maxSteps:=9^9)only[↓VX,VQ,seval,GL])
 repeat'(first|intro _|apply And.intro)
 ·have q : ¬ C.2.2 = 0 := by assumption
  rw [if_neg q] at hW
  rw [hW]
  exact ⟨m,fun _ _ h => h,by first | rfl | exact ⟨rfl,rfl⟩⟩
 all_goals try omega
 all_goals have q : C.2.2 = 0 := by omega
 all_goals have hh := hok q
 all_goals have hr5 := hh.nr
 all_goals have hp : (2 : Nat) ^ h.reports.length ≤ 2 ^ 5 := Nat.pow_le_pow_right (by decide) hr5
 all_goals try omega
 all_goals try exact Int.le_trans (by decide) (Int.natCast_nonneg _)
 rw [if_pos q,← wrong_same hh] at hW
 have hlist := fun s (q : s < 2 ^ 62) => list_c s h.reports.length q (by omega)
 have hlook := fun (b : Nat) m => look_c h (b : Int) m
 have hsome := fun (b : Nat) (q : b < 2 ^ 32) (bm : Nat) (m : Mem) => someT_c h hh b q bm m
 have hcmp := compare_c
 have hlen := fun s => listTo_length s h.reports.length
 simp only [harbA,harbL,ints,lookedL] at hlist hlook hsome hcmp
 refine aloop (envOk _) (fun x : Nat × Mem => ⟨[(1,.v (.eptr [.int .i64 h.ports,.int .i64 h.lost,.slice 5 (h.ships.map shipA),.slice 3 (h.letters.map letA),.slice 4 (h.reports.map repA)])),(2,.v (.slice 1 (((bestTo h x.1).getD []).map (AV.int .i64)))),(4,.v (.bool (bestTo h x.1).isSome)),(19,.v (.int .i64 (2 ^ h.reports.length : Nat))),(20,.v (.int .i64 x.1))],[],[],x.2⟩)
  (fun x => x.1 ≤ 2 ^ h.reports.length ∧ Keeps (fun _ => False) m x.2) (fun x => 2 ^ h.reports.length - x.1) (0,m) (fun _ => rfl) ?_ ?_ ?_
 ·exact ⟨by simp,Keeps.refl _ _⟩
 ·(simp only [FE,↓FP,seval])
  simp [bestTo]
 rintro ⟨k,mk⟩ ⟨hk,hkm⟩
 simp only at hk hkm
 have hsu := bestTo_succ h k
 cases hB : bestTo h k with
 | none =>
  rw [hB] at hsu
  simp only [Option.getD_none,Option.isSome_none,List.map_nil]
  simp(maxSteps:=9^9)only[↓VX,VQ,seval]
  repeat'(first|intro _|apply And.intro)
  all_goals try omega
  ·refine ACall.pure (hlist k (by omega)) ?_
   simp(maxSteps:=9^9)only[↓VX,VQ,seval]
   repeat'(first|intro _|apply And.intro)
   refine ACall.told (hlook k mk) ?_
   rintro r m1 ⟨bm,hbm,rfl,rfl⟩
   simp(maxSteps:=9^9)only[↓VX,VQ,seval]
   repeat'(first|intro _|apply And.intro)
   refine ACall.told (hsome k (by omega) bm _ ⟨[],by simp,upd_same _ _ _⟩) ?_
   rintro r m2 ⟨rfl,hk2,hkk⟩
   have hke : Keeps (fun _ => False) m m2 := by
    refine ⟨fun j x _ hx => ?_⟩
    have hx1 := hkm j x (fun h => h) hx
    have hne := ne_of_some hx1 hbm
    exact hkk j x hne (by rw [upd_ne _ _ hne]; exact hx1)
   simp(maxSteps:=9^9)only[↓VX,VQ,seval]
   repeat'(first|intro _|apply And.intro)
   all_goals try omega
   ·rw [if_pos (by assumption)] at hsu
    refine ⟨(k + 1,m2),⟨by dsimp only; omega,hke⟩,by dsimp only; omega,?_⟩
    (simp only [FE,↓FP,seval])
    rw [hsu]
    exact ⟨rfl,rfl,rfl⟩
   ·rw [if_neg (by assumption)] at hsu
    refine ⟨(k + 1,m2),⟨by dsimp only; omega,hke⟩,by dsimp only; omega,?_⟩
    (simp only [FE,↓FP,seval])
    rw [hsu]
    exact ⟨rfl,rfl,rfl⟩
  ·rw [show k = 2 ^ h.reports.length by omega] at hB
   rw [hB] at hW
   rw [hW]
   exact ⟨m,fun b x hx => hkm b x (fun h => h) hx,rfl,rfl⟩
 | some b0 =>
  rw [hB] at hsu
  simp only [Option.getD_some,Option.isSome_some]
  have hcm := hcmp (listTo k h.reports.length) b0
  have hordB : ordB (listTo k h.reports.length) b0 = (decide (b0.length < (listTo k h.reports.length).length) || (decide ((listTo k h.reports.length).length = b0.length) && decide (0 < lexC (listTo k h.reports.length) b0))) := rfl
  have hlk := hlist k
  have hlen := hlen k
  simp only at hsu
  generalize hT : listTo k h.reports.length = T at *
  simp(maxSteps:=9^9)only[↓VX,VQ,seval]
  repeat'(first|intro _|apply And.intro)
  all_goals try omega
  ·refine ACall.pure (hlk (by omega)) ?_
   simp(maxSteps:=9^9)only[↓VX,VQ,seval]
   repeat'(first|intro _|apply And.intro)
   all_goals try omega
   ·have el : T.length = b0.length := by omega
    refine ACall.pure hcm ?_
    simp(maxSteps:=9^9)only[↓VX,VQ,seval]
    repeat'(first|intro _|apply And.intro)
    all_goals try omega
    ·have hyes : ordB T b0 = true := by rw [hordB,decide_eq_true el,decide_eq_true (show 0 < lexC T b0 by assumption)]; simp
     rw [hyes,if_pos rfl] at hsu
     refine ⟨(k + 1,mk),⟨by dsimp only; omega,hkm⟩,by dsimp only; omega,?_⟩
     (simp only [FE,↓FP,seval])
     rw [hsu]
     exact ⟨rfl,rfl,rfl⟩
    ·have hno : ordB T b0 = false := by rw [hordB,decide_eq_false (show ¬ b0.length < T.length by omega),decide_eq_false (show ¬ 0 < lexC T b0 by assumption)]; simp
     rw [hno,if_neg (by decide)] at hsu
     refine ACall.told (hlook k mk) ?_
     rintro r m1 ⟨bm,hbm,rfl,rfl⟩
     simp(maxSteps:=9^9)only[↓VX,VQ,seval]
     repeat'(first|intro _|apply And.intro)
     refine ACall.told (hsome k (by omega) bm _ ⟨[],by simp,upd_same _ _ _⟩) ?_
     rintro r m2 ⟨rfl,hk2,hkk⟩
     have hke : Keeps (fun _ => False) m m2 := by
      refine ⟨fun j x _ hx => ?_⟩
      have hx1 := hkm j x (fun h => h) hx
      have hne := ne_of_some hx1 hbm
      exact hkk j x hne (by rw [upd_ne _ _ hne]; exact hx1)
     simp(maxSteps:=9^9)only[↓VX,VQ,seval]
     repeat'(first|intro _|apply And.intro)
     all_goals try omega
     ·rw [if_pos (by assumption)] at hsu
      refine ⟨(k + 1,m2),⟨by dsimp only; omega,hke⟩,by dsimp only; omega,?_⟩
      (simp only [FE,↓FP,seval])
      rw [hsu]
      exact ⟨rfl,rfl,rfl⟩
     ·rw [if_neg (by assumption)] at hsu
      refine ⟨(k + 1,m2),⟨by dsimp only; omega,hke⟩,by dsimp only; omega,?_⟩
      (simp only [FE,↓FP,seval])
      rw [hsu]
      exact ⟨rfl,rfl,rfl⟩
   ·have hno : ordB T b0 = false := by rw [hordB,decide_eq_false (show ¬ b0.length < T.length by omega),decide_eq_false (show ¬ T.length = b0.length by omega)]; rfl
    rw [hno,if_neg (by decide)] at hsu
    refine ACall.told (hlook k mk) ?_
    rintro r m1 ⟨bm,hbm,rfl,rfl⟩
    simp(maxSteps:=9^9)only[↓VX,VQ,seval]
    repeat'(first|intro _|apply And.intro)
    refine ACall.told (hsome k (by omega) bm _ ⟨[],by simp,upd_same _ _ _⟩) ?_
    rintro r m2 ⟨rfl,hk2,hkk⟩
    have hke : Keeps (fun _ => False) m m2 := by
     refine ⟨fun j x _ hx => ?_⟩
     have hx1 := hkm j x (fun h => h) hx
     have hne := ne_of_some hx1 hbm
     exact hkk j x hne (by rw [upd_ne _ _ hne]; exact hx1)
    simp(maxSteps:=9^9)only[↓VX,VQ,seval]
    repeat'(first|intro _|apply And.intro)
    all_goals try omega
    ·rw [if_pos (by assumption)] at hsu
     refine ⟨(k + 1,m2),⟨by dsimp only; omega,hke⟩,by dsimp only; omega,?_⟩
     (simp only [FE,↓FP,seval])
     rw [hsu]
     exact ⟨rfl,rfl,rfl⟩
    ·rw [if_neg (by assumption)] at hsu
     refine ⟨(k + 1,m2),⟨by dsimp only; omega,hke⟩,by dsimp only; omega,?_⟩
     (simp only [FE,↓FP,seval])
     rw [hsu]
     exact ⟨rfl,rfl,rfl⟩
   ·have hyes : ordB T b0 = true := by rw [hordB,decide_eq_true (show b0.length < T.length by omega)]; rfl
    rw [hyes,if_pos rfl] at hsu
    refine ⟨(k + 1,mk),⟨by dsimp only; omega,hkm⟩,by dsimp only; omega,?_⟩
    (simp only [FE,↓FP,seval])
    rw [hsu]
    exact ⟨rfl,rfl,rfl⟩
  ·rw [show k = 2 ^ h.reports.length by omega] at hB
   rw [hB] at hW
   rw [hW]
   exact ⟨m,fun b x hx => hkm b x (fun h => h) hx,rfl,rfl⟩
theorem ships_drop {l : List RShip} {k : Nat} (hk : k < l.length) : ((l.map shipA).map AV.cells).flatten.drop (k * 5) = [.str (l[k]!).name,.int .i64 (l[k]!).sails,.slice 2 ((l[k]!).calls.map callA),.int .i64 (l[k]!).lo,.int .i64 (l[k]!).hi] ++ ((l.map shipA).map AV.cells).flatten.drop (k * 5 + 5) := by
 induction l generalizing k with
 | nil => simp at hk
 | cons x l ih =>
  have hx : (shipA x).cells = [.str x.name,.int .i64 x.sails,.slice 2 (x.calls.map callA),.int .i64 x.lo,.int .i64 x.hi] := rfl
  cases k with
  | zero => simp [hx]
  | succ k =>
   have := ih (k := k) (by simpa using hk)
   rw [List.map_cons,List.map_cons,List.flatten_cons,hx,show (k + 1) * 5 = 5 + k * 5 by omega,show 5 + k * 5 + 5 = 5 + (k * 5 + 5) by omega,← List.drop_drop,← List.drop_drop]
   simpa using this
theorem ships_cells (l : List RShip) : ((l.map shipA).map AV.cells).flatten.length = l.length * 5 := by
 induction l with
 | nil => rfl
 | cons x l ih =>
  rw [List.map_cons,List.map_cons,List.flatten_cons,List.length_append,ih]
  simp [shipA,shipL,AV.cells]; omega
theorem sendE_known {h : RHarb} {port day : Int} : (knownR h (dayE day (indexE (checkH h).2.2 port h.ports))).2 = enterE h h.ports (datedE day) [port] := by
 refine known_enter (fun q => ?_) (fun q => ?_)
 ·rw [indexE_bad q,dayE_bad q]
 ·rw [q,indexE_good]
  simp only [List.any_cons,List.any_nil,Bool.or_false]
  by_cases q1 : offP 0 (h.ports - 1) port = true
  ·simp only [if_pos q1]; exact dayE_bad (by decide)
  ·simp only [if_neg q1]; unfold dayE datedE; rw [if_pos rfl]
theorem sendR_bad {h : RHarb} {port day : Int} (e : enterE h h.ports (datedE day) [port] ≠ 0) : sendR h port day = (0,0,enterE h h.ports (datedE day) [port]) := by
 rw [← sendE_known] at e ⊢
 unfold sendR
 rw [if_neg e]
theorem sendR_good {h : RHarb} {port day : Int} (e : enterE h h.ports (datedE day) [port] = 0) : sendR h port day = if (sendTo h (truthsR h []) port day h.ships.length).1 < 0 then (0,0,9) else ((sendTo h (truthsR h []) port day h.ships.length).1,(sendTo h (truthsR h []) port day h.ships.length).2,0) := by
 rw [← sendE_known] at e
 obtain ⟨k1,k2,k3⟩ := known_zero e
 unfold sendR
 rw [if_pos e,k2]
theorem send_top (h : RHarb) (hs : hnamesFit h) (port day : Int) : PCall Tryz.prog 8 [harbA h,.int .i64 port,.int .i64 day] (.tuple [.int .i64 (sendR h port day).1,.int .i64 (sendR h port day).2.1,.int .i64 (sendR h port day).2.2]) := by
 intro m
 refine ACall.forget ?_
 have hen := fun other m => enter_c h hs h.ports other [port] (fun q => by have := (hok_check q).p; omega) m
 have hbad := sendR_bad (h := h) (port := port) (day := day)
 have hgood := sendR_good (h := h) (port := port) (day := day)
 have hdat := dated_c day
 generalize sendR h port day = R at *
 generalize datedE day = W at *
 simp only [harbA,harbL,ints,List.map_nil,List.map_cons] at hen ⊢
 (refine acall_intro (E := envC (modeAt [12,13,14,32] []) false []) (envCOk _ _ _) rfl Tryz.func8 rfl Tryz.call8 (by kernel_rfl) (by simp [Tryz.ntmps8]) ?_; simp only [Tryz.f8];  simp(maxSteps:=9^9)only[↓VX,VQ,seval])
 (refine adraw (by first | exact envOk _ | exact envCOk _ _ _) mixed [⟨true,false,0⟩,⟨true,false,0⟩,⟨true,false,0⟩,⟨true,false,0⟩,⟨true,false,0⟩,⟨true,false,0⟩,⟨true,false,0⟩,⟨false,false,2⟩,⟨true,false,0⟩,⟨true,false,0⟩,⟨true,false,0⟩,⟨true,false,0⟩,⟨true,false,0⟩] (by kernel_rfl) ?_; show vcOpsD _ _ _ (_ :: _) _ _)
 simp(maxSteps:=9^9)only[↓VX,VQ,seval]
 repeat'(first|intro _|apply And.intro)
 refine VPure.of hdat ?_
 simp(maxSteps:=9^9)only[↓VX,VQ,seval]
 repeat'(first|intro _|apply And.intro)
 refine ACall.told (hen _ _) ?_
 rintro r m1 ⟨kk,⟨hz,rfl⟩ | ⟨hz,bm,hbm,rfl,hkn⟩⟩
 ·have hb := hbad hz
  generalize enterE h h.ports W [port] = e at *
  subst hb
  simp(maxSteps:=9^9)only[↓VX,VQ,seval,hz]
  exact ⟨m,fun b x hx => kk b x (fun h => h) hx,rfl⟩
 ·obtain ⟨z1,z2,z3,z4⟩ := enter_zero hz
  have hh := hok_check z1
  have h3 := hh.n
  have hR := hgood hz
  clear hen hbad hgood
  have hrep : (List.replicate h.ships.length [AV.str ByteArray.empty,AV.int IntKind.i64 0,AV.slice 2 [],AV.int IntKind.i64 0,AV.int IntKind.i64 0]).flatten.length = h.ships.length * 5 := by simp
  have hrd : (List.replicate h.ships.length [AV.str ByteArray.empty,AV.int IntKind.i64 0,AV.slice 2 [],AV.int IntKind.i64 0,AV.int IntKind.i64 0]).flatten.drop (h.ships.length * 5) = [] := List.drop_eq_nil_of_le (by rw [hrep]; exact Nat.le_refl _)
  have hcl := ships_cells h.ships
  have hcf := fun (s : Nat) (q : s < h.ships.length) (m : Mem) (hk : Known h 0 bm m) => callsF_c h hh 0 (by decide) bm s port q m hk
  have htk := fun (s : Nat) => takes_c (h.ships[s]!) port day
  simp only [lookedL,Int.natCast_zero,shipA,shipL] at hcf htk ⊢
  simp(maxSteps:=9^9)only[↓VX,VQ,seval]
  repeat'(first|intro _|apply And.intro)
  all_goals try omega
  refine aloop (envCOk _ _ _) (fun x : Nat × Mem => ⟨[(1,.v (.int .i64 port)),(2,.v (.int .i64 day)),(3,.v (.eptr [.int .i64 h.ports,.int .i64 h.lost,.slice 5 (h.ships.map shipA),.slice 3 (h.letters.map letA),.slice 4 (h.reports.map repA)])),(6,.v (.int .i64 (sendTo h (truthsR h []) port day x.1).1)),(7,.v (.int .i64 (if (sendTo h (truthsR h []) port day x.1).1 < 0 then 61 else (sendTo h (truthsR h []) port day x.1).2))),(9,.v (.eptr (lookedL h 0 bm))),(37,.lslice 32 0 h.ships.length h.ships.length),(38,.v (.int .i64 h.ships.length)),(39,.v (.int .i64 x.1))],[],
    [(32,((h.ships.map shipA).map AV.cells).flatten)],x.2⟩)
   (fun x => x.1 ≤ h.ships.length ∧ Known h 0 bm x.2 ∧ Keeps (fun _ => False) m x.2) (fun x => h.ships.length - x.1) (0,m1) (fun _ => rfl) ?_ ?_ ?_
  ·exact ⟨by simp,hkn,kk⟩
  ·(simp only [FE,↓FP,seval])
   rw [hcl,hrd]
   simp [lookedL,sendTo]
  rintro ⟨k,mk⟩ ⟨hk,hknk,hkk⟩
  simp only at hk hknk hkk
  have hb := sendTo_le h (truthsR h []) port day k
  have hsu : sendTo h (truthsR h []) port day (k + 1) = if sendOk h (truthsR h []) port day (sendTo h (truthsR h []) port day k) k = true then ((k : Int),(calledTo h (truthsR h []) k port (truthsR h []).length).1.2) else sendTo h (truthsR h []) port day k := rfl
  have hok : sendOk h (truthsR h []) port day (sendTo h (truthsR h []) port day k) k = (takesB (h.ships[k]!) port day && (decide ((calledTo h (truthsR h []) k port (truthsR h []).length).2 = ((truthsR h []).length : Int)) && (decide ((sendTo h (truthsR h []) port day k).1 < 0) || decide ((calledTo h (truthsR h []) k port (truthsR h []).length).1.2 < (sendTo h (truthsR h []) port day k).2)))) := rfl
  have hlast : k = h.ships.length → R = if (sendTo h (truthsR h []) port day k).1 < 0 then (0,0,9) else ((sendTo h (truthsR h []) port day k).1,(sendTo h (truthsR h []) port day k).2,0) := fun e => by rw [e]; exact hR
  generalize sendTo h (truthsR h []) port day k = B at *
  simp only [lookedL]
  by_cases hkl : k < h.ships.length
  ·have hdr := ships_drop hkl
   have hck := hcf k hkl mk hknk
   have hslen : (sendOk h (truthsR h []) port day B k) = (sendOk h (truthsR h []) port day B k) := rfl
   have htk := htk k
   generalize takesB (h.ships[k]!) port day = T at *
   simp(maxSteps:=9^9)only[↓VX,VQ,seval,hdr]
   repeat'(first|intro _|apply And.intro)
   all_goals try omega
   refine ACall.told hck ?_
   rintro r m2 ⟨k1,k2,L,g,rfl⟩
   obtain ⟨c1,c2,c3,c4,c5⟩ := calls_same hh (given_same hh g) hkl port
   have hke : Keeps (fun _ => False) m m2 := ⟨fun b x _ hx => k2 b x (ne_of_some hx hbm) (hkk b x (fun h => h) hx)⟩
   have hpos : 0 < (L.length : Int) := by
    have h1 : anyT h 0 = true := z4
    unfold anyT at h1
    rw [List.any_eq_true] at h1
    obtain ⟨x,hx,ho⟩ := h1
    have := g.c x hx ho
    rw [List.nil_append] at this
    have := List.length_pos_of_mem this
    omega
   have hhi : yesC (fun x => decide (dA h k port x < 61)) L ≠ 0 → hiC h k port L = (calledTo h (truthsR h []) k port (truthsR h []).length).1.2 ∧ hiC h k port L < 61 := fun q => by
    have := c4 q
    have e := congrArg Prod.snd this
    simp only at e
    refine ⟨e,?_⟩
    obtain ⟨m1,m2,m3⟩ := hi_fold (dA h k port) L 0
    change hiC h k port L = 0 ∨ ∃ x ∈ L,dA h k port x < 61 ∧ hiC h k port L = dA h k port x at m3
    rcases m3 with m3 | ⟨z,_,hz1,hz2⟩ <;> omega
   generalize hcalled : calledTo h (truthsR h []) k port (truthsR h []).length = CA at *
   generalize hiC h k port L = hi at *
   generalize yesC (fun x => decide (dA h k port x < 61)) L = yes at *
   generalize loC h k port L = lo at *
   simp(maxSteps:=9^9)only[↓VX,VQ,seval]
   repeat'(first|intro _|apply And.intro)
   all_goals try omega
   refine ACall.pure htk ?_
   simp(maxSteps:=9^9)only[↓VX,VQ,seval]
   repeat'(first|intro _|apply And.intro)
   all_goals try omega
   ·have ya : yes = (L.length : Int) := by assumption
    obtain ⟨h1,h2⟩ := hhi (by omega)
    have q : hi < if B.1 < 0 then 61 else B.2 := by assumption
    have hyes : sendOk h (truthsR h []) port day B k = true := by
     rw [hok,show T = true by assumption,decide_eq_true (c3.1 ya),← h1]
     by_cases q2 : B.1 < 0
     ·rw [decide_eq_true q2]; rfl
     ·rw [if_neg q2] at q; rw [decide_eq_true q]; simp
    rw [hyes,if_pos rfl] at hsu
    (refine adraw (by first | exact envOk _ | exact envCOk _ _ _) mixed [⟨false,false,0⟩,⟨false,false,0⟩,⟨false,false,0⟩,⟨false,false,0⟩,⟨false,false,0⟩] (by kernel_rfl) ?_; show vcOpsD _ _ _ (_ :: _) _ _)
    simp(maxSteps:=9^9)only[↓VX,VQ,seval]
    repeat'(first|intro _|apply And.intro)
    all_goals try omega
    refine ⟨(k + 1,m2),⟨by dsimp only; omega,k1,hke⟩,by dsimp only; omega,?_⟩
    (simp only [FE,↓FP,seval])
    rw [hsu,h1]
    simp
    try omega
   ·have ya : yes = (L.length : Int) := by assumption
    obtain ⟨h1,h2⟩ := hhi (by omega)
    have q : ¬ hi < if B.1 < 0 then 61 else B.2 := by assumption
    have hno : sendOk h (truthsR h []) port day B k = false := by
     rw [hok,← h1]
     by_cases q2 : B.1 < 0
     ·rw [if_pos q2] at q; exact absurd h2 q
     ·rw [if_neg q2] at q; rw [decide_eq_false q2,decide_eq_false q]; simp
    rw [hno,if_neg (by decide)] at hsu
    refine ⟨(k + 1,m2),⟨by dsimp only; omega,k1,hke⟩,by dsimp only; omega,?_⟩
    (simp only [FE,↓FP,seval])
    rw [hsu]
    simp
   ·have hno : sendOk h (truthsR h []) port day B k = false := by
     rw [hok,decide_eq_false (fun e => (show ¬ yes = (L.length : Int) by assumption) (c3.2 e))]; simp
    rw [hno,if_neg (by decide)] at hsu
    refine ⟨(k + 1,m2),⟨by dsimp only; omega,k1,hke⟩,by dsimp only; omega,?_⟩
    (simp only [FE,↓FP,seval])
    rw [hsu]
    simp
   ·have hno : sendOk h (truthsR h []) port day B k = false := by
     rw [hok,show T = false by (first | assumption | (rw [← Bool.not_eq_false]; assumption) | (rw [← Bool.not_eq_true]; assumption) | omega)]; simp
    rw [hno,if_neg (by decide)] at hsu
    refine ⟨(k + 1,m2),⟨by dsimp only; omega,k1,hke⟩,by dsimp only; omega,?_⟩
    (simp only [FE,↓FP,seval])
    rw [hsu]
    simp
  ·simp(maxSteps:=9^9)only[↓VX,VQ,seval]
   repeat'(first|intro _|apply And.intro)
   all_goals try omega
   ·have hR := hlast (by omega)
    have q : B.1 = -1 := by assumption
    rw [if_pos (by omega)] at hR
    rw [hR]
    exact ⟨m,fun b x hx => hkk b x (fun h => h) hx,rfl,rfl⟩
   ·have hR := hlast (by omega)
    have q : ¬ B.1 = -1 := by assumption
    rw [if_neg (by omega)] at hR
    rw [hR,if_neg (by omega)]
    exact ⟨m,fun b x hx => hkk b x (fun h => h) hx,rfl,rfl⟩
def validB (h : RHarb) : Bool := decide ((checkH h).2.2 = 0)
def someB (h : RHarb) : Bool := validB h && okT h []
theorem some_check {h : RHarb} (e : someB h = true) : (checkH h).2.2 = 0 := by
 unfold someB validB at e
 rw [Bool.and_eq_true,decide_eq_true_eq] at e
 exact e.1
theorem some_truths {h : RHarb} (e : someB h = true) : truthsR h [] ≠ [] := fun q => by
 unfold someB okT at e
 rw [Bool.and_eq_true,decide_eq_true_eq,q] at e
 exact absurd e.2 (by decide)
theorem some_known {h : RHarb} (e : someB h = true) : knownR h 0 = (truthsR h [],0) := by
 unfold knownR
 rw [if_neg (by decide),if_neg (some_truths e)]
theorem known_some {h : RHarb} {c : Int} (hc : c = 0 → (checkH h).2.2 = 0) (e : (knownR h c).2 = 0) : someB h = true ∧ c = 0 := by
 unfold knownR at e
 split at e
 ·rename_i q; exact absurd e q
 ·rename_i q
  split at e
  ·cases e
  ·rename_i q2
   have q3 : c = 0 := by omega
   refine ⟨?_,q3⟩
   unfold someB validB okT
   rw [Bool.and_eq_true,decide_eq_true_eq,decide_eq_true_eq]
   exact ⟨hc q3,List.length_pos_iff.2 q2⟩
theorem index_in {c n b : Int} (hc : c = 0) (h : 0 ≤ n ∧ n ≤ b - 1) : indexE c n b = 0 := by
 unfold indexE
 rw [if_pos hc,if_neg (by rw [Bool.not_eq_true,offP_false]; exact h)]
theorem day_in {d e : Int} (he : e = 0) (h : 0 ≤ d ∧ d ≤ 60) : dayE d e = 0 := by
 unfold dayE
 rw [if_pos he,if_neg (by rw [Bool.not_eq_true,offP_false]; exact h)]
def hiE (h : RHarb) (port : Int) (s : Nat) : Int := (calledTo h (truthsR h []) s port (truthsR h []).length).1.2
def sureE (h : RHarb) (port day : Int) (s : Nat) : Prop := takesB (h.ships[s]!) port day = true ∧ (calledTo h (truthsR h []) s port (truthsR h []).length).2 = ((truthsR h []).length : Int)
theorem sendTo_law (h : RHarb) (port day : Int) : ∀ n : Nat,((sendTo h (truthsR h []) port day n).1 = -1 ∧ ∀ s,s < n → ¬ sureE h port day s) ∨
  ∃ o : Nat,o < n ∧ sendTo h (truthsR h []) port day n = ((o : Int),hiE h port o) ∧ sureE h port day o ∧ ∀ s,s < n → sureE h port day s → hiE h port o ≤ hiE h port s ∧ (s < o → hiE h port o < hiE h port s)
 | 0 => .inl ⟨rfl,fun s hs => by omega⟩
 | n + 1 => by
  have ih := sendTo_law h port day n
  have hok : ∀ b : Int × Int,sendOk h (truthsR h []) port day b n = true ↔ sureE h port day n ∧ (b.1 < 0 ∨ hiE h port n < b.2) := fun b => by
   unfold sendOk sureE hiE
   simp only [Bool.and_eq_true,Bool.or_eq_true,decide_eq_true_eq,and_assoc]
  unfold sendTo
  rcases ih with ⟨i1,i2⟩ | ⟨o,ho,i1,i2,i3⟩
  ·by_cases q : sendOk h (truthsR h []) port day (sendTo h (truthsR h []) port day n) n = true
   ·rw [if_pos q]
    have q1 := ((hok _).1 q).1
    refine .inr ⟨n,by omega,rfl,q1,fun s hs hq => ?_⟩
    by_cases e : s = n
    ·subst e; exact ⟨Int.le_refl _,fun w => by omega⟩
    ·exact absurd hq (i2 s (by omega))
   ·rw [if_neg q]
    refine .inl ⟨i1,fun s hs hq => ?_⟩
    by_cases e : s = n
    ·subst e; exact q ((hok _).2 ⟨hq,.inl (by omega)⟩)
    ·exact i2 s (by omega) hq
  ·by_cases q : sendOk h (truthsR h []) port day (sendTo h (truthsR h []) port day n) n = true
   ·rw [if_pos q]
    obtain ⟨q1,q2⟩ := (hok _).1 q
    rw [i1] at q2
    simp only at q2
    refine .inr ⟨n,by omega,rfl,q1,fun s hs hq => ?_⟩
    by_cases e : s = n
    ·subst e; exact ⟨Int.le_refl _,fun w => by omega⟩
    ·have := i3 s (by omega) hq
     exact ⟨by omega,fun _ => by omega⟩
   ·rw [if_neg q]
    refine .inr ⟨o,by omega,i1,i2,fun s hs hq => ?_⟩
    by_cases e : s = n
    ·subst e
     have q2 : ¬ (hiE h port s < hiE h port o) := fun w => q ((hok _).2 ⟨hq,.inr (by rw [i1]; exact w)⟩)
     exact ⟨by omega,fun w => by omega⟩
    ·exact i3 s (by omega) hq
theorem sendR_some {h : RHarb} (hs : someB h = true) {port day : Int} (hp : 0 ≤ port ∧ port ≤ h.ports - 1) (hd : 0 ≤ day ∧ day ≤ 60) :
  (sendR h port day = (0,0,9) ∧ ∀ s,s < h.ships.length → ¬ sureE h port day s) ∨
  ∃ o : Nat,o < h.ships.length ∧ sendR h port day = ((o : Int),hiE h port o,0) ∧ sureE h port day o ∧ ∀ s,s < h.ships.length → sureE h port day s → hiE h port o ≤ hiE h port s ∧ (s < o → hiE h port o < hiE h port s) := by
 have e : dayE day (indexE (checkH h).2.2 port h.ports) = 0 := day_in (index_in (some_check hs) hp) hd
 have e2 : sendR h port day = if (sendTo h (truthsR h []) port day h.ships.length).1 < 0 then (0,0,9) else ((sendTo h (truthsR h []) port day h.ships.length).1,(sendTo h (truthsR h []) port day h.ships.length).2,0) := by
  unfold sendR
  rw [e,some_known hs,if_pos rfl]
 rcases sendTo_law h port day h.ships.length with ⟨i1,i2⟩ | ⟨o,ho,i1,i2,i3⟩
 ·rw [e2,if_pos (by omega)]
  exact .inl ⟨rfl,i2⟩
 ·rw [e2,i1]
  simp only
  rw [if_neg (by omega)]
  exact .inr ⟨o,ho,rfl,i2,i3⟩
theorem sendR_some_of {h : RHarb} {port day : Int} (e : (sendR h port day).2.2 = 0) : someB h = true := by
 unfold sendR at e
 split at e
 ·rename_i q
  exact (known_some (fun q => (indexE_zero (dayE_zero q).1).1) q).1
 ·rename_i q; exact absurd e q
theorem takes_mono {s : RShip} {port d d' : Int} (h : d' ≤ d) (e : takesB s port d = true) : takesB s port d' = true := by
 unfold takesB at e ⊢
 rw [Bool.and_eq_true] at e ⊢
 refine ⟨?_,e.2⟩
 have := of_decide_eq_true e.1
 exact decide_eq_true (by omega)
theorem sail_law {h : RHarb} (hs : someB h = true) {port : Int} (hp : 0 ≤ port ∧ port ≤ h.ports - 1) {o : Nat} {u d : Int} (e : sendR h port 0 = ((o : Int),u,0)) (hd : 0 ≤ d ∧ d ≤ (h.ships[o]!).sails) (hs2 : (h.ships[o]!).sails ≤ 60) :
  o < h.ships.length ∧ sendR h port d = ((o : Int),u,0) ∧ takesB (h.ships[o]!) port d = true := by
 rcases sendR_some hs hp (day := 0) ⟨by omega,by omega⟩ with ⟨h1,_⟩ | ⟨a,ha,h1,h2,h3⟩
 ·rw [h1] at e
  have q : (9 : Int) = 0 := congrArg (fun x => x.2.2) e
  exact absurd q (by decide)
 ·rw [e] at h1
  have e1 : (o : Int) = (a : Int) := congrArg (fun x => x.1) h1
  have e2 : u = hiE h port a := congrArg (fun x => x.2.1) h1
  have : o = a := by omega
  subst this
  have hS : sureE h port d o := by
   refine ⟨?_,h2.2⟩
   have := h2.1
   unfold takesB at this ⊢
   rw [Bool.and_eq_true] at this ⊢
   exact ⟨decide_eq_true (by omega),this.2⟩
  refine ⟨ha,?_,hS.1⟩
  rcases sendR_some hs hp (day := d) ⟨hd.1,by omega⟩ with ⟨g1,g2⟩ | ⟨c,hc,g1,g2,g3⟩
  ·exact absurd hS (g2 o ha)
  ·have hS0 : sureE h port 0 c := ⟨takes_mono (by omega) g2.1,g2.2⟩
   obtain ⟨k1,k2⟩ := g3 o ha hS
   obtain ⟨k3,k4⟩ := h3 c hc hS0
   have : c = o := by
    rcases Nat.lt_trichotomy c o with q | q | q
    ·have := k4 q; omega
    ·exact q
    ·have := k2 q; omega
   subst this
   rw [g1,e2]
theorem spanE_zero {lo hi a b : Int} (e : spanE lo hi a b = 0) : a ≤ lo ∧ lo ≤ hi ∧ hi ≤ b := by
 unfold spanE at e
 split at e
 ·cases e
 ·rename_i h1
  rw [Bool.not_eq_true,Bool.or_eq_false_iff,offP_false,offP_false] at h1
  split at e
  ·cases e
  ·omega
theorem dok_check {h : RHall} (e : (checkD h).2.2 = 0) : DOk h := by
 unfold checkD at e
 split at e
 ·cases e
 ·rename_i h1
  rw [Bool.not_eq_true,offP_false] at h1
  split at e
  ·cases e
  ·rename_i h2
   split at e
   ·rename_i h3; exact absurd e h3
   ·rename_i h3
    split at e
    ·cases e
    ·rename_i h4
     split at e
     ·rename_i h5; exact absurd e h5
     ·rename_i h5
      have h3 : (wrisE h).2 = 0 := by omega
      have h5 : (cussE h).2 = 0 := by omega
      unfold wrisE at h3
      unfold cussE at h5
      rw [failFrom_zero] at h3 h5
      refine ⟨h1,by omega,fun i hi => ?_,by omega,fun i hi => ?_⟩
      ·have := h3 i hi
       rw [← getD_any hi,Nat.zero_add] at this
       unfold wriErr at this
       split at this
       ·split at this
        ·cases this
        ·split at this
         ·cases this
         ·rename_i q
          rw [Bool.not_eq_true,offP_false] at q
          have := spanE_zero this
          exact ⟨q,by omega⟩
       ·cases this
      ·have := h5 i hi
       rw [← getD_any hi,Nat.zero_add] at this
       unfold cusErr at this
       split at this
       ·split at this
        ·cases this
        ·split at this
         ·cases this
         ·rename_i q
          rw [Bool.not_eq_true,Bool.or_eq_false_iff,offP_false,offP_false] at q
          have := spanE_zero this
          exact ⟨q.1,by omega,q.2⟩
       ·cases this
def shipC (x : RCus) (n : Int) : RCus := { x with ship := n }
def sailH (h : RHall) (f : Nat → Int) (n : Nat) : RHall := { h with cus := (List.range h.cus.length).map fun i => if i < n then shipC (h.cus[i]!) (f i) else h.cus[i]! }
theorem sail_n (h : RHall) (f : Nat → Int) (n : Nat) : (sailH h f n).cus.length = h.cus.length := by unfold sailH; simp
theorem sail_at (h : RHall) (f : Nat → Int) {n i : Nat} (hi : i < h.cus.length) : (sailH h f n).cus[i]! = if i < n then shipC (h.cus[i]!) (f i) else h.cus[i]! := by
 unfold sailH
 rw [getD_any (by simpa using hi)]
 simp
theorem sealed_law {h : RHall} {b : RHarb} (_hb : HOk b) (hs : someB b = true) {s : Nat → Nat} {u port : Nat → Int} (hp : ∀ i,i < h.cus.length → 0 ≤ port i ∧ port i ≤ b.ports - 1)
  (he : ∀ i,i < h.cus.length → sendR b (port i) 0 = ((s i : Int),u i,0)) (e : (bestD (sailH h (fun i => 10 * (b.ships[s i]!).sails) h.cus.length)).2.2 = 0) :
  enterD (sailH h (fun i => 10 * (b.ships[s i]!).sails) h.cus.length) (bestD (sailH h (fun i => 10 * (b.ships[s i]!).sails) h.cus.length)).1 = 0 ∧
  (endsR (sailH h (fun i => 10 * (b.ships[s i]!).sails) h.cus.length) (bestD (sailH h (fun i => 10 * (b.ships[s i]!).sails) h.cus.length)).1).length = h.cus.length ∧
  ∀ i,i < h.cus.length → (0 ≤ ((endsR (sailH h (fun i => 10 * (b.ships[s i]!).sails) h.cus.length) (bestD (sailH h (fun i => 10 * (b.ships[s i]!).sails) h.cus.length)).1)[i]!).2 ∧ ((endsR (sailH h (fun i => 10 * (b.ships[s i]!).sails) h.cus.length) (bestD (sailH h (fun i => 10 * (b.ships[s i]!).sails) h.cus.length)).1)[i]!).2 ≤ 240) ∧
   ∀ d : Int,d = (((endsR (sailH h (fun i => 10 * (b.ships[s i]!).sails) h.cus.length) (bestD (sailH h (fun i => 10 * (b.ships[s i]!).sails) h.cus.length)).1)[i]!).2 + 9) / 10 → (0 ≤ d ∧ d ≤ 24) ∧ s i < b.ships.length ∧ sendR b (port i) d = ((s i : Int),u i,0) ∧ takesB (b.ships[s i]!) (port i) d = true := by
 have q : (checkD (sailH h (fun i => 10 * (b.ships[s i]!).sails) h.cus.length)).2.2 = 0 := by
  unfold bestD at e
  apply Decidable.byContradiction
  intro q
  rw [if_pos q] at e
  exact q e
 have hd := dok_check q
 obtain ⟨_,e2,e3,e4⟩ := best_good hd e
 rw [sail_n] at e3 e4
 refine ⟨e2,e3,fun i hi => ?_⟩
 obtain ⟨g1,g2⟩ := e4 i hi
 have g3 := (hd.cus i (by rw [sail_n]; exact hi)).2.2
 rw [sail_at _ _ hi,if_pos hi] at g2 g3
 have g2 : _ ≤ 10 * (b.ships[s i]!).sails := g2
 have g3 : 0 ≤ 10 * (b.ships[s i]!).sails ∧ 10 * (b.ships[s i]!).sails ≤ 240 := g3
 refine ⟨⟨g1,by omega⟩,fun d hdd => ?_⟩
 have hd1 : 0 ≤ d ∧ d ≤ (b.ships[s i]!).sails := by omega
 obtain ⟨k1,k2,k3⟩ := sail_law hs (hp i hi) (he i hi) hd1 (by omega)
 exact ⟨by omega,k1,k2,k3⟩
theorem eqFlatSpan4 (a b a' b' : Int) : EqFlat Tryz.prog 40 [.int .i64 a,.int .i64 b] [.int .i64 a',.int .i64 b'] (decide (a = a') && (decide (b = b') && true)) := by
 intro vs vs' com w x y h h'
 obtain ⟨v1,vs,rfl,r1,h⟩ := Reps.cons_inv h
 obtain ⟨v2,vs,rfl,r2,h⟩ := Reps.cons_inv h
 obtain rfl := Reps.nil_inv h
 obtain ⟨u1,us,rfl,s1,h'⟩ := Reps.cons_inv h'
 obtain ⟨u2,us,rfl,s2,h'⟩ := Reps.cons_inv h'
 obtain rfl := Reps.nil_inv h'
 obtain rfl := rep_int r1; obtain rfl := rep_int r2
 obtain rfl := rep_int s1; obtain rfl := rep_int s2
 have hg : Tryz.prog.eqGuardType Tryz.prog.depth 40 = false := by kernel_rfl
 have hu : Tryz.prog.underlying 40 = some (.struct (Tryz.prog.fieldsOf 40)) := by kernel_rfl
 have hs : Tryz.prog.stoodInHeld 40 = false := by kernel_rfl
 have key : (Op.equalIn 10000 40 (.agg #[.int .i64 a,.int .i64 b]) (.agg #[.int .i64 a',.int .i64 b'])).run Tryz.prog w =
   .ok (decide (a = a') && (decide (b = b') && true)) w := by
  rw [run_equalIn_agg w 9999 40 _ _ hu hs]
  simp only [Program.fieldsOf,Tryz.underlying40]
  exact eqStep (by decide) rfl rfl rfl (eqStep (by decide) rfl rfl rfl (by simp [Op.eqFields]))
 constructor
 ·rw [Sem.run_bind,run_eqGuard_agg w .eql 40 x y _ _ hg,Result.andThen_ok,run_eql_struct,key]; rfl
 ·rw [Sem.run_bind,run_eqGuard_agg w .neq 40 x y _ _ hg,Result.andThen_ok,run_neq_struct,key]; rfl
def exH (lost : Int) (more : Nat) : RHarb := ⟨2,lost,[⟨⟨#[97,108,98,97]⟩,1,[⟨0,3⟩,⟨1,6⟩],0,2⟩,⟨⟨#[98,114,105,115,97]⟩,3,[⟨1,3⟩],0,1⟩],[⟨1,0,-1⟩,⟨1,2,-1⟩],
 ⟨0,0,0,5⟩ :: (if more = 1 then [⟨0,1,1,9⟩] else if more = 2 then [⟨3,0,0,8⟩,⟨2,1,0,6⟩] else [])⟩
theorem ex_names (lost : Int) (more : Nat) : hnamesFit (exH lost more) := by
 intro s hs
 simp only [exH,List.mem_cons,List.not_mem_nil,or_false] at hs
 rcases hs with rfl | rfl <;> decide
theorem span_c (a b : Int) : PCall Tryz.prog 26 [.int .i64 a,.int .i64 b] (.agg [.int .i64 a,.int .i64 b]) := by
 intro m
 (refine acall_intro (E := envC (modeAt [4] []) false []) (envCOk _ _ _) rfl Tryz.func26 rfl Tryz.call26 (by kernel_rfl) (by simp [Tryz.ntmps26]) ?_; simp only [Tryz.f26];  simp(maxSteps:=9^9)only[↓VX,VQ,seval])
 unfold vcSome
 simp only [buildFrom,placeOf]
 simp(maxSteps:=9^9)only[↓VX,VQ,seval]
theorem harbour0_c (lost : Int) : PCall Tryz.prog 19 [.int .i64 lost,.int .i64 0] (harbA (exH lost 0)) := by
 intro m
 have h1 := span_c 0 2
 have h2 := span_c 0 1
 simp only [harbA,harbL,exH,List.map_cons,List.map_nil,shipA,shipL,callA,letA,repA,if_true,if_false,Nat.reduceEqDiff,reduceCtorEq]
 (refine acall_intro (E := envC (modeAt [4,5] []) false []) (envCOk _ _ _) rfl Tryz.func19 rfl Tryz.call19 (by kernel_rfl) (by simp [Tryz.ntmps19]) ?_; simp only [Tryz.f19];  simp(maxSteps:=9^9)only[↓VX,VQ,seval,buildV,Int.reduceEq])
 (refine ACall.pure (h1) ?_; try simp(maxSteps:=9^9)only[↓VX,VQ,seval,GL,buildV,Int.reduceEq])
 (refine ACall.pure (h2) ?_; try simp(maxSteps:=9^9)only[↓VX,VQ,seval,GL,buildV,Int.reduceEq])
 try rfl
theorem harbour1_c (lost : Int) : PCall Tryz.prog 19 [.int .i64 lost,.int .i64 1] (harbA (exH lost 1)) := by
 intro m
 refine ACall.forget ?_
 have h1 := span_c 0 2
 have h2 := span_c 0 1
 simp only [harbA,harbL,exH,List.map_cons,List.map_nil,shipA,shipL,callA,letA,repA,if_true,if_false,Nat.reduceEqDiff,reduceCtorEq]
 (refine acall_intro (E := envC (modeAt [4,5] []) false [1,3]) (envCOk _ _ _) rfl Tryz.func19 rfl Tryz.call19 (by kernel_rfl) (by simp [Tryz.ntmps19]) ?_; simp only [Tryz.f19];  simp(maxSteps:=9^9)only[↓VX,VQ,seval,buildV,Int.reduceEq])
 refine acut_at_k 15 (envCOk _ _ _) (V := vcBuildM _) (fun h hd _ _ _ hi hf hs _ _ _ hn => vcBuildM_sound (envCOk _ _ _) h hd hi hf hs hn) rfl rfl (fun b : Nat => ⟨[(0,.v (.int .i64 lost)),(1,.v (.int .i64 1)),(4,.loc 4 0),(5,.loc 5 0)],[],[(4,[.int .i64 0,.int .i64 0,.slice 5 [],.slice 3 [],.slice 4 []]),(5,[.int .i64 2,.int .i64 lost,.slice 5 [.agg [.str ⟨#[97,108,98,97]⟩,.int .i64 1,.slice 2 [.agg [.int .i64 0,.int .i64 3],.agg [.int .i64 1,.int .i64 6]],.int .i64 0,.int .i64 2],.agg [.str ⟨#[98,114,105,115,97]⟩,.int .i64 3,.slice 2 [.agg [.int .i64 1,.int .i64 3]],.int .i64 0,.int .i64 1]],.slice 3 [.agg [.int .i64 1,.int .i64 0,.int .i64 (-1)],.agg [.int .i64 1,.int .i64 2,.int .i64 (-1)]],.mslice b 0 1 1])],upd m b (some (.cells [.int .i64 0,.int .i64 0,.int .i64 0,.int .i64 5]))⟩) (fun b => m b = none) (fun _ => rfl) ?_ ?_
 ·show vcOps _ _ (_ :: _) _ _
  simp(maxSteps:=9^9)only[↓VX,VQ,seval,buildV,Int.reduceEq]
  (refine ACall.pure (h1) ?_; try simp(maxSteps:=9^9)only[↓VX,VQ,seval,GL,buildV,Int.reduceEq])
  (refine ACall.pure (h2) ?_; try simp(maxSteps:=9^9)only[↓VX,VQ,seval,GL,buildV,Int.reduceEq,vcBuildM])
  intro b hb
  refine ⟨b,hb,?_⟩
  (simp only [FE,↓FP,seval])
  try simp
 ·intro b hb
  simp(maxSteps:=9^9)only[↓VX,VQ,seval,buildV,Int.reduceEq]
  refine acut_at_k 4 (envCOk _ _ _) (V := vcAppM _) (fun h hd _ _ _ hi hf hs _ _ _ hn => vcAppM_sound (envCOk _ _ _) h hd hi hf hs hn) rfl rfl (fun _ : Nat => ⟨[(0,.v (.int .i64 lost)),(1,.v (.int .i64 1)),(4,.loc 4 0),(5,.loc 5 0)],[],[(4,[.int .i64 0,.int .i64 0,.slice 5 [],.slice 3 [],.slice 4 []]),(5,[.int .i64 2,.int .i64 lost,.slice 5 [.agg [.str ⟨#[97,108,98,97]⟩,.int .i64 1,.slice 2 [.agg [.int .i64 0,.int .i64 3],.agg [.int .i64 1,.int .i64 6]],.int .i64 0,.int .i64 2],.agg [.str ⟨#[98,114,105,115,97]⟩,.int .i64 3,.slice 2 [.agg [.int .i64 1,.int .i64 3]],.int .i64 0,.int .i64 1]],.slice 3 [.agg [.int .i64 1,.int .i64 0,.int .i64 (-1)],.agg [.int .i64 1,.int .i64 2,.int .i64 (-1)]],.slice 4 [.agg [.int .i64 0,.int .i64 0,.int .i64 0,.int .i64 5],.agg [.int .i64 0,.int .i64 1,.int .i64 1,.int .i64 9]]])],upd m b (some (.cells [.int .i64 0,.int .i64 0,.int .i64 0,.int .i64 5]))⟩) (fun _ => True) (fun _ => rfl) ?_ ?_
  ·show vcOps _ _ (_ :: _) _ _
   simp(maxSteps:=9^9)only[↓VX,VQ,seval,buildV,Int.reduceEq,vcAppM]
   refine ⟨[.agg [.int .i64 0,.int .i64 0,.int .i64 0,.int .i64 5]],?_,?_⟩
   ·simp [AV.cells,flat]
   ·refine ⟨0,?_⟩
    (simp only [FE,↓FP,seval])
    try simp
  ·intro _ _
   simp(maxSteps:=9^9)only[↓VX,VQ,seval,buildV,Int.reduceEq]
   exact ⟨m,fun k x hx => by rw [if_neg (by rintro rfl; rw [hb] at hx; cases hx)]; exact hx,rfl⟩
theorem harbour2_c (lost : Int) : PCall Tryz.prog 19 [.int .i64 lost,.int .i64 2] (harbA (exH lost 2)) := by
 intro m
 refine ACall.forget ?_
 have h1 := span_c 0 2
 have h2 := span_c 0 1
 simp only [harbA,harbL,exH,List.map_cons,List.map_nil,shipA,shipL,callA,letA,repA,if_true,if_false,Nat.reduceEqDiff,reduceCtorEq]
 (refine acall_intro (E := envC (modeAt [4,5] []) false [1,5]) (envCOk _ _ _) rfl Tryz.func19 rfl Tryz.call19 (by kernel_rfl) (by simp [Tryz.ntmps19]) ?_; simp only [Tryz.f19];  simp(maxSteps:=9^9)only[↓VX,VQ,seval,buildV,Int.reduceEq])
 refine acut_at_k 15 (envCOk _ _ _) (V := vcBuildM _) (fun h hd _ _ _ hi hf hs _ _ _ hn => vcBuildM_sound (envCOk _ _ _) h hd hi hf hs hn) rfl rfl (fun b : Nat => ⟨[(0,.v (.int .i64 lost)),(1,.v (.int .i64 2)),(4,.loc 4 0),(5,.loc 5 0)],[],[(4,[.int .i64 0,.int .i64 0,.slice 5 [],.slice 3 [],.slice 4 []]),(5,[.int .i64 2,.int .i64 lost,.slice 5 [.agg [.str ⟨#[97,108,98,97]⟩,.int .i64 1,.slice 2 [.agg [.int .i64 0,.int .i64 3],.agg [.int .i64 1,.int .i64 6]],.int .i64 0,.int .i64 2],.agg [.str ⟨#[98,114,105,115,97]⟩,.int .i64 3,.slice 2 [.agg [.int .i64 1,.int .i64 3]],.int .i64 0,.int .i64 1]],.slice 3 [.agg [.int .i64 1,.int .i64 0,.int .i64 (-1)],.agg [.int .i64 1,.int .i64 2,.int .i64 (-1)]],.mslice b 0 1 1])],upd m b (some (.cells [.int .i64 0,.int .i64 0,.int .i64 0,.int .i64 5]))⟩) (fun b => m b = none) (fun _ => rfl) ?_ ?_
 ·show vcOps _ _ (_ :: _) _ _
  simp(maxSteps:=9^9)only[↓VX,VQ,seval,buildV,Int.reduceEq]
  (refine ACall.pure (h1) ?_; try simp(maxSteps:=9^9)only[↓VX,VQ,seval,GL,buildV,Int.reduceEq])
  (refine ACall.pure (h2) ?_; try simp(maxSteps:=9^9)only[↓VX,VQ,seval,GL,buildV,Int.reduceEq,vcBuildM])
  intro b hb
  refine ⟨b,hb,?_⟩
  (simp only [FE,↓FP,seval])
  try simp
 ·intro b hb
  simp(maxSteps:=9^9)only[↓VX,VQ,seval,buildV,Int.reduceEq]
  refine acut_at_k 5 (envCOk _ _ _) (V := vcAppM _) (fun h hd _ _ _ hi hf hs _ _ _ hn => vcAppM_sound (envCOk _ _ _) h hd hi hf hs hn) rfl rfl (fun _ : Nat => ⟨[(0,.v (.int .i64 lost)),(1,.v (.int .i64 2)),(4,.loc 4 0),(5,.loc 5 0)],[],[(4,[.int .i64 0,.int .i64 0,.slice 5 [],.slice 3 [],.slice 4 []]),(5,[.int .i64 2,.int .i64 lost,.slice 5 [.agg [.str ⟨#[97,108,98,97]⟩,.int .i64 1,.slice 2 [.agg [.int .i64 0,.int .i64 3],.agg [.int .i64 1,.int .i64 6]],.int .i64 0,.int .i64 2],.agg [.str ⟨#[98,114,105,115,97]⟩,.int .i64 3,.slice 2 [.agg [.int .i64 1,.int .i64 3]],.int .i64 0,.int .i64 1]],.slice 3 [.agg [.int .i64 1,.int .i64 0,.int .i64 (-1)],.agg [.int .i64 1,.int .i64 2,.int .i64 (-1)]],.slice 4 [.agg [.int .i64 0,.int .i64 0,.int .i64 0,.int .i64 5],.agg [.int .i64 3,.int .i64 0,.int .i64 0,.int .i64 8],.agg [.int .i64 2,.int .i64 1,.int .i64 0,.int .i64 6]]])],upd m b (some (.cells [.int .i64 0,.int .i64 0,.int .i64 0,.int .i64 5]))⟩) (fun _ => True) (fun _ => rfl) ?_ ?_
  ·show vcOps _ _ (_ :: _) _ _
   simp(maxSteps:=9^9)only[↓VX,VQ,seval,buildV,Int.reduceEq,vcAppM]
   refine ⟨[.agg [.int .i64 0,.int .i64 0,.int .i64 0,.int .i64 5]],?_,?_⟩
   ·simp [AV.cells,flat]
   ·refine ⟨0,?_⟩
    (simp only [FE,↓FP,seval])
    try simp
  ·intro _ _
   simp(maxSteps:=9^9)only[↓VX,VQ,seval,buildV,Int.reduceEq]
   exact ⟨m,fun k x hx => by rw [if_neg (by rintro rfl; rw [hb] at hx; cases hx)]; exact hx,rfl⟩
theorem x1 : callsR (exH 1 0) 0 1 = ((8,8),0,0) := by kernel_rfl
theorem x2 : callsR (exH 1 0) 0 0 = ((5,5),1,0) := by kernel_rfl
theorem x3 : callsR (exH 1 0) 1 0 = ((0,0),2,0) := by kernel_rfl
theorem x4 : sunkR (exH 1 2) = ([0],[0],0) := by kernel_rfl
theorem x5 : comeR (exH 0 0) 1 7 = (1,0) := by kernel_rfl
theorem x6 : comeR (exH 1 0) 0 5 = (2,0) := by kernel_rfl
theorem x7 : byR (exH 1 2) 0 = ([0],0) := by kernel_rfl
theorem x8 : beforeR (exH 1 2) 1 0 = (1,0) := by kernel_rfl
theorem x9 : wrongR (exH 1 1) = ([1],0) := by kernel_rfl
theorem x10 : byR (exH 1 1) 0 = ([],8) := by kernel_rfl
theorem x11 : sendR (exH 0 0) 1 0 = (1,7,0) := by kernel_rfl
theorem x12 : sendR (exH 1 0) 1 0 = (0,0,9) := by kernel_rfl
theorem intsT4_c (a : List Int) : PCall Tryz.prog 27 [ints a,ints a] (.bool true) := by
 have := ints_c a a
 rwa [decide_eq_true rfl] at this
theorem awake4_c : PCall Tryz.prog 6 [] (.bool true) := by
 intro m
 have a0 := harbour0_c 1
 have a1 := harbour1_c 1
 have a2 := harbour2_c 1
 have a3 := harbour0_c 0
 have b1 := calls_top (exH 1 0) (ex_names 1 0) 0 1 (by decide)
 have b2 := calls_top (exH 1 0) (ex_names 1 0) 0 0 (by decide)
 have b3 := calls_top (exH 1 0) (ex_names 1 0) 1 0 (by decide)
 have b4 := sunk_top (exH 1 2) (ex_names 1 2)
 have b5 := come_top (exH 0 0) (ex_names 0 0) 1 7
 have b6 := come_top (exH 1 0) (ex_names 1 0) 0 5
 have b7 := by_top (exH 1 2) (ex_names 1 2) 0
 have b8 := before_top (exH 1 2) (ex_names 1 2) 1 0
 have b9 := wrong_top (exH 1 1) (ex_names 1 1)
 have b10 := by_top (exH 1 1) (ex_names 1 1) 0
 have b11 := send_top (exH 0 0) (ex_names 0 0) 1 0
 have b12 := send_top (exH 1 0) (ex_names 1 0) 1 0
 have i1 := intsT4_c [0]
 have i2 := intsT4_c [1]
 have s1 := span_c 8 8
 have eq32 := eqFlatSpan4 8 8 8 8
 rw [x1] at b1; rw [x2] at b2; rw [x3] at b3; rw [x4] at b4; rw [x5] at b5; rw [x6] at b6; rw [x7] at b7; rw [x8] at b8; rw [x9] at b9; rw [x10] at b10; rw [x11] at b11; rw [x12] at b12
 simp only [harbA,harbL,exH,List.map_cons,List.map_nil,shipA,shipL,callA,letA,repA,if_true,if_false,Nat.reduceEqDiff,reduceCtorEq,ints] at *
 simp only [decide_true,Bool.and_true] at eq32
 (refine acall_intro (E := envC (modeAt [1,2,3,4,5,8,11] []) false []) (envCOk _ _ _) rfl Tryz.func6 rfl Tryz.call6 (by kernel_rfl) (by simp [Tryz.ntmps6]) ?_; simp only [Tryz.f6];  simp(maxSteps:=9^9)only[↓VX,VQ,seval,Int.reduceEq])
 (refine ACall.pure (a0) ?_; try simp(maxSteps:=9^9)only[↓VX,VQ,seval])
 (refine ACall.pure (a1) ?_; try simp(maxSteps:=9^9)only[↓VX,VQ,seval])
 (refine ACall.pure (a2) ?_; try simp(maxSteps:=9^9)only[↓VX,VQ,seval])
 (refine ACall.pure (a3) ?_; try simp(maxSteps:=9^9)only[↓VX,VQ,seval])
 (refine ACall.pure (b1) ?_; try simp(maxSteps:=9^9)only[↓VX,VQ,seval])
 (refine ACall.pure (b2) ?_; try simp(maxSteps:=9^9)only[↓VX,VQ,seval])
 (refine ACall.pure (b3) ?_; try simp(maxSteps:=9^9)only[↓VX,VQ,seval])
 (refine ACall.pure (b4) ?_; try simp(maxSteps:=9^9)only[↓VX,VQ,seval])
 (refine ACall.pure (b5) ?_; try simp(maxSteps:=9^9)only[↓VX,VQ,seval])
 (refine ACall.pure (b6) ?_; try simp(maxSteps:=9^9)only[↓VX,VQ,seval])
 (refine ACall.pure (b7) ?_; try simp(maxSteps:=9^9)only[↓VX,VQ,seval])
 (refine ACall.pure (b8) ?_; try simp(maxSteps:=9^9)only[↓VX,VQ,seval])
 (refine ACall.pure (b9) ?_; try simp(maxSteps:=9^9)only[↓VX,VQ,seval])
 (refine ACall.pure (b10) ?_; try simp(maxSteps:=9^9)only[↓VX,VQ,seval])
 (refine ACall.pure (b11) ?_; try simp(maxSteps:=9^9)only[↓VX,VQ,seval])
 ((refine ACall.pure (b12) ?_; try simp(maxSteps:=9^9)only[↓VX,VQ,seval]); try simp(maxSteps:=9^9)only[↓VX,VQ,seval,GL])
 (refine adrawQ (by first | exact envOk _ | exact envCOk _ _ _) mixed (by kernel_rfl) 104 ?_; simp only [List.replicate_succ,List.replicate_zero]; show vcOpsD _ _ _ (_ :: _) _ _)
 simp(maxSteps:=9^9)only[↓VX,VQ,seval,Int.reduceEq,eq_self,decide_true,decide_false,if_true,if_false,not_true_eq_false,List.append_eq]
 refine VPure.of s1 ?_
 simp(maxSteps:=9^9)only[↓VX,VQ,seval,Int.reduceEq,eq_self,decide_true,decide_false,if_true,if_false,not_true_eq_false,List.append_eq]
 refine ⟨eq32,?_⟩
 refine VPure.of i1 ?_
 simp(maxSteps:=9^9)only[↓VX,VQ,seval,Int.reduceEq,eq_self,decide_true,decide_false,if_true,if_false,not_true_eq_false,List.append_eq]
 refine VPure.of i1 ?_
 simp(maxSteps:=9^9)only[↓VX,VQ,seval,Int.reduceEq,eq_self,decide_true,decide_false,if_true,if_false,not_true_eq_false,List.append_eq]
 refine VPure.of i1 ?_
 simp(maxSteps:=9^9)only[↓VX,VQ,seval,Int.reduceEq,eq_self,decide_true,decide_false,if_true,if_false,not_true_eq_false,List.append_eq]
 refine VPure.of i2 ?_
 simp(maxSteps:=9^9)only[↓VX,VQ,seval,Int.reduceEq,eq_self,decide_true,decide_false,if_true,if_false,not_true_eq_false,List.append_eq]
end Go.Proofs.YteppmjlfpniiaaaGreat.Abs
