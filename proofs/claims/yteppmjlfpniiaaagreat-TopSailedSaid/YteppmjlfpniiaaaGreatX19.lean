/- Lemmas for the statements of this seat (X19): they hold without conditions beyond those that each one states. -/
import Derived.Test.YteppmjlfpniiaaaGreatX17
import Derived.Test.YteppmjlfpniiaaaGreatX12
import Derived.Test.YteppmjlfpniiaaaGreatX13
import Derived.Test.YteppmjlfpniiaaaGreatX6
import Derived.Test.YteppmjlfpniiaaaGreatX8
/- Contracts: Check of a hall. -/
namespace Go.Proofs.YteppmjlfpniiaaaGreat.Abs
set_option linter.unusedSimpArgs false
set_option maxHeartbeats 4000000
set_option maxRecDepth 100000
open Go Go.RowKit Go.Proofs
def dnamesFit (h : RHall) : Prop := (∀ s ∈ h.wri,s.name.size ≤ 9223372036854775807) ∧ ∀ s ∈ h.cus,s.name.size ≤ 9223372036854775807
theorem offOneD_c (lo hi a : Int) : PCall Tryz.prog 72 [.int .i64 lo,.int .i64 hi,.slice 1 [.int .i64 a]] (.bool (offP lo hi a)) := by
 have h := beyondD_c lo hi [a]
 simpa [ints] using h
theorem offTwoD_c (lo hi a b : Int) : PCall Tryz.prog 72 [.int .i64 lo,.int .i64 hi,.slice 1 [.int .i64 a,.int .i64 b]] (.bool (offP lo hi a || offP lo hi b)) := by
 have h := beyondD_c lo hi [a,b]
 simpa [ints] using h
theorem dcheck11_c (x s : RWri) : PCall Tryz.prog 80 [wriA x,.eptr [.str s.name,.int .i64 s.kinds,.int .i64 s.lo,.int .i64 s.hi]] (.bool (decide (x.name = s.name))) := by
 intro m
 simp only [wriA]
 (refine acall_intro (E := env fun _ => .imm) (envOk _) rfl Tryz.func80 rfl Tryz.call80 (by kernel_rfl) (by simp [Tryz.ntmps80]) ?_; simp only [Tryz.f80];  simp(maxSteps:=9^9)only[↓VX,VQ,seval])
theorem dcheck1_c (h : RHall) (i : Nat) (s : RWri) (hi : i ≤ h.wri.length) (hs : s.name.size ≤ 9223372036854775807) :
  PCall Tryz.prog 77 [.int .i64 i,wriA s,.eptr (hallL h)] (.int .i64 (wriErr h.wri i s)) := by
 intro m
 have h1 := name_c s.name hs
 have h2 := containsWri_c 80 [.eptr [.str s.name,.int .i64 s.kinds,.int .i64 s.lo,.int .i64 s.hi]] (h.wri.take i) (fun x => decide (x.name = s.name)) fun x _ => dcheck11_c x s
 have h3 := offOneD_c 0 15 s.kinds
 have h4 := offTwoD_c 0 240 s.lo s.hi
 have e : wriErr h.wri i s = if nameB s.name = true then (if (h.wri.take i).any (fun x => decide (x.name = s.name)) = true then 5 else if offP 0 15 s.kinds = true then 7 else if (offP 0 240 s.lo || offP 0 240 s.hi) = true then 7 else if s.hi < s.lo then 2 else 0) else 6 := rfl
 generalize (h.wri.take i).any (fun x => decide (x.name = s.name)) = tw at *
 generalize wriErr h.wri i s = W at *
 rw [List.map_take] at h2
 simp only [hallL,wriA] at *
 (refine acall_intro (E := envC (modeAt [] []) false []) (envCOk _ _ _) rfl Tryz.func77 rfl Tryz.call77 (by kernel_rfl) (by simp [Tryz.ntmps77]) ?_; simp only [Tryz.f77];  simp(maxSteps:=9^9)only[↓VX,VQ,seval,Int.reduceEq])
 repeat'(first|intro _|apply And.intro)
 all_goals try first|omega|(simp only[LL];omega)|exact nlC (by decide) _|exact nbC rfl
 ((refine ACall.pure (h1) ?_; try simp(maxSteps:=9^9)only[↓VX,VQ,seval]); try simp(maxSteps:=9^9)only[↓VX,VQ,seval,GL])
 repeat'(first|intro _|apply And.intro)
 all_goals try first|omega|(simp only[LL];omega)|exact nlC (by decide) _|exact nbC rfl
 ·(first | (rw [e]; (repeat' split) <;> first | rfl | (exfalso; omega) | (exfalso; simp_all; done) | (exfalso; simp_all; omega)))
 ((refine ACall.pure (h2) ?_; try simp(maxSteps:=9^9)only[↓VX,VQ,seval]); try simp(maxSteps:=9^9)only[↓VX,VQ,seval,GL])
 repeat'(first|intro _|apply And.intro)
 all_goals try first|omega|(simp only[LL];omega)|exact nlC (by decide) _|exact nbC rfl
 ·(first | (rw [e]; (repeat' split) <;> first | rfl | (exfalso; omega) | (exfalso; simp_all; done) | (exfalso; simp_all; omega)))
 ((refine ACall.pure (h3) ?_; try simp(maxSteps:=9^9)only[↓VX,VQ,seval]); try simp(maxSteps:=9^9)only[↓VX,VQ,seval,GL])
 repeat'(first|intro _|apply And.intro)
 all_goals try first|omega|(simp only[LL];omega)|exact nlC (by decide) _|exact nbC rfl
 all_goals try (((refine ACall.pure (h4) ?_; try simp(maxSteps:=9^9)only[↓VX,VQ,seval]); try simp(maxSteps:=9^9)only[↓VX,VQ,seval,GL]))
 all_goals try repeat'(first|intro _|apply And.intro)
 all_goals try all_goals try first|omega|(simp only[LL];omega)|exact nlC (by decide) _|exact nbC rfl
 all_goals (first | (rw [e]; (repeat' split) <;> first | rfl | (exfalso; omega) | (exfalso; simp_all; done) | (exfalso; simp_all; omega)))
theorem dcheck21_c (x s : RCus) : PCall Tryz.prog 84 [cusA x,.eptr [.str s.name,.int .i64 s.kind,.int .i64 s.lo,.int .i64 s.hi,.int .i64 s.ship]] (.bool (decide (x.name = s.name))) := by
 intro m
 simp only [cusA]
 (refine acall_intro (E := env fun _ => .imm) (envOk _) rfl Tryz.func84 rfl Tryz.call84 (by kernel_rfl) (by simp [Tryz.ntmps84]) ?_; simp only [Tryz.f84];  simp(maxSteps:=9^9)only[↓VX,VQ,seval])
theorem dcheck2_c (h : RHall) (i : Nat) (s : RCus) (hi : i ≤ h.cus.length) (hs : s.name.size ≤ 9223372036854775807) :
  PCall Tryz.prog 82 [.int .i64 i,cusA s,.eptr (hallL h)] (.int .i64 (cusErr h.cus i s)) := by
 intro m
 have h1 := name_c s.name hs
 have h2 := containsCus_c 84 [.eptr [.str s.name,.int .i64 s.kind,.int .i64 s.lo,.int .i64 s.hi,.int .i64 s.ship]] (h.cus.take i) (fun x => decide (x.name = s.name)) fun x _ => dcheck21_c x s
 have h3 := offOneD_c 0 3 s.kind
 have h4 := offTwoD_c 1 30 s.lo s.hi
 have h5 := offOneD_c 0 240 s.ship
 have e : cusErr h.cus i s = if nameB s.name = true then (if (h.cus.take i).any (fun x => decide (x.name = s.name)) = true then 5 else if (offP 0 3 s.kind || offP 0 240 s.ship) = true then 7 else if (offP 1 30 s.lo || offP 1 30 s.hi) = true then 7 else if s.hi < s.lo then 2 else 0) else 6 := rfl
 generalize (h.cus.take i).any (fun x => decide (x.name = s.name)) = tw at *
 generalize cusErr h.cus i s = W at *
 rw [List.map_take] at h2
 simp only [hallL,cusA] at *
 (refine acall_intro (E := envC (modeAt [] []) false []) (envCOk _ _ _) rfl Tryz.func82 rfl Tryz.call82 (by kernel_rfl) (by simp [Tryz.ntmps82]) ?_; simp only [Tryz.f82];  simp(maxSteps:=9^9)only[↓VX,VQ,seval,Int.reduceEq])
 repeat'(first|intro _|apply And.intro)
 all_goals try first|omega|(simp only[LL];omega)|exact nlC (by decide) _|exact nbC rfl
 ((refine ACall.pure (h1) ?_; try simp(maxSteps:=9^9)only[↓VX,VQ,seval]); try simp(maxSteps:=9^9)only[↓VX,VQ,seval,GL])
 repeat'(first|intro _|apply And.intro)
 all_goals try first|omega|(simp only[LL];omega)|exact nlC (by decide) _|exact nbC rfl
 ·(first | (rw [e]; (repeat' split) <;> first | rfl | (exfalso; omega) | (exfalso; simp_all; done) | (exfalso; simp_all; omega)))
 ((refine ACall.pure (h2) ?_; try simp(maxSteps:=9^9)only[↓VX,VQ,seval]); try simp(maxSteps:=9^9)only[↓VX,VQ,seval,GL])
 repeat'(first|intro _|apply And.intro)
 all_goals try first|omega|(simp only[LL];omega)|exact nlC (by decide) _|exact nbC rfl
 ·(first | (rw [e]; (repeat' split) <;> first | rfl | (exfalso; omega) | (exfalso; simp_all; done) | (exfalso; simp_all; omega)))
 ((refine ACall.pure (h3) ?_; try simp(maxSteps:=9^9)only[↓VX,VQ,seval]); try simp(maxSteps:=9^9)only[↓VX,VQ,seval,GL])
 repeat'(first|intro _|apply And.intro)
 all_goals try first|omega|(simp only[LL];omega)|exact nlC (by decide) _|exact nbC rfl
 all_goals try (((refine ACall.pure (h4) ?_; try simp(maxSteps:=9^9)only[↓VX,VQ,seval]); try simp(maxSteps:=9^9)only[↓VX,VQ,seval,GL]))
 all_goals try repeat'(first|intro _|apply And.intro)
 all_goals try all_goals try first|omega|(simp only[LL];omega)|exact nlC (by decide) _|exact nbC rfl
 all_goals try (((refine ACall.pure (h5) ?_; try simp(maxSteps:=9^9)only[↓VX,VQ,seval]); try simp(maxSteps:=9^9)only[↓VX,VQ,seval,GL]))
 all_goals try repeat'(first|intro _|apply And.intro)
 all_goals try all_goals try first|omega|(simp only[LL];omega)|exact nlC (by decide) _|exact nbC rfl
 all_goals (first | (rw [e]; (repeat' split) <;> first | rfl | (exfalso; omega) | (exfalso; simp_all; done) | (exfalso; simp_all; omega)))
theorem checkD_fail (h : RHall) : checkD h = if offP 0 5 h.sl = true then (1,0,7) else if (failD (wriErr h.wri) 3 h.wri).2 ≠ 0 then (2,(failD (wriErr h.wri) 3 h.wri).1,(failD (wriErr h.wri) 3 h.wri).2)
  else if (failD (cusErr h.cus) 5 h.cus).2 ≠ 0 then (3,(failD (cusErr h.cus) 5 h.cus).1,(failD (cusErr h.cus) 5 h.cus).2) else (0,0,0) := by
 unfold checkD failD wrisE cussE
 by_cases q1 : offP 0 5 h.sl = true
 ·rw [if_pos q1,if_pos q1]
 ·rw [if_neg q1,if_neg q1]
  by_cases q2 : 3 < h.wri.length
  ·have q2' : (3 : Int) < h.wri.length := by omega
   rw [if_pos q2,if_pos q2']
   rfl
  ·have q2' : ¬ (3 : Int) < h.wri.length := by omega
   rw [if_neg q2,if_neg q2']
   by_cases q3 : (failFrom (wriErr h.wri) 0 h.wri).2 ≠ 0
   ·rw [if_pos q3,if_pos q3]
   ·rw [if_neg q3,if_neg q3]
    by_cases q4 : 5 < h.cus.length
    ·have q4' : (5 : Int) < h.cus.length := by omega
     rw [if_pos q4,if_pos q4']
     rfl
    ·have q4' : ¬ (5 : Int) < h.cus.length := by omega
     rw [if_neg q4,if_neg q4']
theorem dcheck_c (h : RHall) (hs : dnamesFit h) : PCall Tryz.prog 42 [hallA h] (.tuple [.int .i64 (checkD h).1,.int .i64 (checkD h).2.1,.int .i64 (checkD h).2.2]) := by
 intro m
 have h0 := offOneD_c 0 5 h.sl
 have hf1 := failingWri_c 77 [.eptr (hallL h)] h.wri 3 (wriErr h.wri) fun i hi => dcheck1_c h i h.wri[i] (by omega) (hs.1 _ (List.getElem_mem hi))
 have hf2 := failingCus_c 82 [.eptr (hallL h)] h.cus 5 (cusErr h.cus) fun i hi => dcheck2_c h i h.cus[i] (by omega) (hs.2 _ (List.getElem_mem hi))
 have e := checkD_fail h
 generalize failD (wriErr h.wri) 3 h.wri = w at *
 generalize failD (cusErr h.cus) 5 h.cus = c at *
 generalize checkD h = W at *
 simp only [hallA,hallL] at *
 (refine acall_intro (E := envC (modeAt [] []) false []) (envCOk _ _ _) rfl Tryz.func42 rfl Tryz.call42 (by kernel_rfl) (by simp [Tryz.ntmps42]) ?_; simp only [Tryz.f42];  simp(maxSteps:=9^9)only[↓VX,VQ,seval,Int.reduceEq])
 ((refine ACall.pure (h0) ?_; try simp(maxSteps:=9^9)only[↓VX,VQ,seval]); try simp(maxSteps:=9^9)only[↓VX,VQ,seval,GL])
 repeat'(first|intro _|apply And.intro)
 all_goals try first|omega|(simp only[LL];omega)|exact nlC (by decide) _|exact nbC rfl
 ·have q : offP 0 5 h.sl = true := by assumption
  rw [e,if_pos q]
 have q : ¬ offP 0 5 h.sl = true := by assumption
 rw [if_neg q] at e
 ((refine ACall.pure (hf1) ?_; try simp(maxSteps:=9^9)only[↓VX,VQ,seval]); try simp(maxSteps:=9^9)only[↓VX,VQ,seval,GL])
 repeat'(first|intro _|apply And.intro)
 all_goals try first|omega|(simp only[LL];omega)|exact nlC (by decide) _|exact nbC rfl
 ·have q : w.2 ≠ 0 := by assumption
  rw [e,if_pos q]
 have q : ¬ w.2 ≠ 0 := by assumption
 rw [if_neg q] at e
 ((refine ACall.pure (hf2) ?_; try simp(maxSteps:=9^9)only[↓VX,VQ,seval]); try simp(maxSteps:=9^9)only[↓VX,VQ,seval,GL])
 repeat'(first|intro _|apply And.intro)
 all_goals try first|omega|(simp only[LL];omega)|exact nlC (by decide) _|exact nbC rfl
 ·have q : c.2 ≠ 0 := by assumption
  rw [e,if_pos q]
 have q : ¬ c.2 ≠ 0 := by assumption
 rw [e,if_neg q]
def wriFit (x : RWri) : Int := if offP 0 15 x.kinds = true then 7 else spanE x.lo x.hi 0 240
def cusFit (x : RCus) : Int := if (offP 0 3 x.kind || offP 0 240 x.ship) = true then 7 else spanE x.lo x.hi 1 30
theorem refwri_c (x : RWri) : PCall Tryz.prog 17 [wriA x] (.int .i64 (wriFit x)) := by
 intro m
 have h1 := in_o x.kinds 0 15
 have h2 := ends_c 0 240 x.lo x.hi
 have e : wriFit x = if offP 0 15 x.kinds = true then 7 else spanE x.lo x.hi 0 240 := rfl
 change PCall _ _ _ (.int .i64 (spanE x.lo x.hi 0 240)) at h2
 generalize spanE x.lo x.hi 0 240 = V at *
 generalize wriFit x = W at *
 simp only [wriA] at *
 (refine acall_intro (E := envC (modeAt [] []) false []) (envCOk _ _ _) rfl Tryz.func17 rfl Tryz.call17 (by kernel_rfl) (by simp [Tryz.ntmps17]) ?_; simp only [Tryz.f17];  simp(maxSteps:=9^9)only[↓VX,VQ,seval,Int.reduceEq])
 ((refine ACall.pure (h1) ?_; try simp(maxSteps:=9^9)only[↓VX,VQ,seval]); try simp(maxSteps:=9^9)only[↓VX,VQ,seval,GL])
 repeat'(first|intro _|apply And.intro)
 all_goals try first|omega|(simp only[LL];omega)|exact nlC (by decide) _|exact nbC rfl
 ·(first | (rw [e]; (repeat' split) <;> first | rfl | (exfalso; omega) | (exfalso; simp_all; done) | (exfalso; simp_all; omega)))
 ((refine ACall.pure (h2) ?_; try simp(maxSteps:=9^9)only[↓VX,VQ,seval]); try simp(maxSteps:=9^9)only[↓VX,VQ,seval,GL])
 repeat'(first|intro _|apply And.intro)
 (first | (rw [e]; (repeat' split) <;> first | rfl | (exfalso; omega) | (exfalso; simp_all; done) | (exfalso; simp_all; omega)))
theorem refcus_c (x : RCus) : PCall Tryz.prog 18 [cusA x] (.int .i64 (cusFit x)) := by
 intro m
 have h1 := in_o x.kind 0 3
 have h2 := in_o x.ship 0 240
 have h3 := ends_c 1 30 x.lo x.hi
 have e : cusFit x = if (offP 0 3 x.kind || offP 0 240 x.ship) = true then 7 else spanE x.lo x.hi 1 30 := rfl
 change PCall _ _ _ (.int .i64 (spanE x.lo x.hi 1 30)) at h3
 generalize spanE x.lo x.hi 1 30 = V at *
 generalize cusFit x = W at *
 generalize offP 0 3 x.kind = a at *
 generalize offP 0 240 x.ship = b at *
 simp only [cusA] at *
 (refine acall_intro (E := envC (modeAt [] []) false []) (envCOk _ _ _) rfl Tryz.func18 rfl Tryz.call18 (by kernel_rfl) (by simp [Tryz.ntmps18]) ?_; simp only [Tryz.f18];  simp(maxSteps:=9^9)only[↓VX,VQ,seval,Int.reduceEq])
 cases a with
 | true =>
  ((refine ACall.pure (h1) ?_; try simp(maxSteps:=9^9)only[↓VX,VQ,seval]); try simp(maxSteps:=9^9)only[↓VX,VQ,seval,GL])
  repeat'(first|intro _|apply And.intro)
  all_goals try first|omega|(simp only[LL];omega)|exact nlC (by decide) _|exact nbC rfl
  all_goals (first | (rw [e]; (repeat' split) <;> first | rfl | (exfalso; omega) | (exfalso; simp_all; done) | (exfalso; simp_all; omega)))
 | false =>
  cases b with
  | true =>
   ((refine ACall.pure (h1) ?_; try simp(maxSteps:=9^9)only[↓VX,VQ,seval]); try simp(maxSteps:=9^9)only[↓VX,VQ,seval,GL])
   ((refine ACall.pure (h2) ?_; try simp(maxSteps:=9^9)only[↓VX,VQ,seval]); try simp(maxSteps:=9^9)only[↓VX,VQ,seval,GL])
   repeat'(first|intro _|apply And.intro)
   all_goals try first|omega|(simp only[LL];omega)|exact nlC (by decide) _|exact nbC rfl
   all_goals (first | (rw [e]; (repeat' split) <;> first | rfl | (exfalso; omega) | (exfalso; simp_all; done) | (exfalso; simp_all; omega)))
  | false =>
   ((refine ACall.pure (h1) ?_; try simp(maxSteps:=9^9)only[↓VX,VQ,seval]); try simp(maxSteps:=9^9)only[↓VX,VQ,seval,GL])
   ((refine ACall.pure (h2) ?_; try simp(maxSteps:=9^9)only[↓VX,VQ,seval]); try simp(maxSteps:=9^9)only[↓VX,VQ,seval,GL])
   ((refine ACall.pure (h3) ?_; try simp(maxSteps:=9^9)only[↓VX,VQ,seval]); try simp(maxSteps:=9^9)only[↓VX,VQ,seval,GL])
   repeat'(first|intro _|apply And.intro)
   all_goals try first|omega|(simp only[LL];omega)|exact nlC (by decide) _|exact nbC rfl
   all_goals (first | (rw [e]; (repeat' split) <;> first | rfl | (exfalso; omega) | (exfalso; simp_all; done) | (exfalso; simp_all; omega)))
theorem anyW (l : List RWri) (n : ByteArray) : (l.map RWri.name).any (fun x => decide (x = n)) = l.any fun x => decide (x.name = n) := by
 rw [List.any_map]; rfl
theorem anyC (l : List RCus) (n : ByteArray) : (l.map RCus.name).any (fun x => decide (x = n)) = l.any fun x => decide (x.name = n) := by
 rw [List.any_map]; rfl
theorem refcheckD_c (h : RHall) (hs : dnamesFit h) : PCall Tryz.prog 5 [hallA h] (.tuple [.int .i64 (checkD h).1,.int .i64 (checkD h).2.1,.int .i64 (checkD h).2.2]) := by
 intro m
 have hc1 := in_o h.sl 0 5
 have hf1 := fun (s : RWri) (q : s.name.size ≤ 9223372036854775807) (k : Nat) => fresh_c s.name ((h.wri.take k).map RWri.name) q
 have hf2 := fun (s : RCus) (q : s.name.size ≤ 9223372036854775807) (k : Nat) => fresh_c s.name ((h.cus.take k).map RCus.name) q
 have hw := fun s => refwri_c s
 have hc := fun s => refcus_c s
 have e : checkD h = if offP 0 5 h.sl = true then (1,0,7)
   else if 3 < h.wri.length then (2,0,3)
   else if (wrisE h).2 ≠ 0 then (2,(wrisE h).1,(wrisE h).2)
   else if 5 < h.cus.length then (3,0,3)
   else if (cussE h).2 ≠ 0 then (3,(cussE h).1,(cussE h).2)
   else (0,0,0) := rfl
 generalize checkD h = W at *
 simp only [hallA,hallL,strs,wriA,cusA] at *
 (refine acall_intro (E := envC (modeAt [] []) false [9,21]) (envCOk _ _ _) rfl Tryz.func5 rfl Tryz.call5 (by kernel_rfl) (by simp [Tryz.ntmps5]) ?_; simp only [Tryz.f5];  simp(maxSteps:=9^9)only[↓VX,VQ,seval,Int.reduceEq])
 ((refine ACall.pure (hc1) ?_; try simp(maxSteps:=9^9)only[↓VX,VQ,seval]); try simp(maxSteps:=9^9)only[↓VX,VQ,seval,GL])
 repeat'(first|intro _|apply And.intro)
 all_goals try first|omega|(simp only[LL];omega)|exact nlC (by decide) _|exact nbC rfl
 ·have q : offP 0 5 h.sl = true := by assumption
  rw [e,if_pos q]
 have q : ¬ offP 0 5 h.sl = true := by assumption
 rw [if_neg q] at e
 ·rw [e,if_pos (by omega)]
 have h4 : ¬ 3 < h.wri.length := by omega
 have q : ¬ offP 0 5 h.sl = true := by assumption
 rw [if_neg q,if_neg h4] at e
 refine aloop (envCOk _ _ _) (fun k : Nat => ⟨[(1,.v (.eptr [.int .i64 h.sl,.slice 4 (h.wri.map wriA),.slice 5 (h.cus.map cusA)])),(5,.v (.slice 1 (((h.wri.take k).map RWri.name).map AV.str))),(6,.v (.int .i64 k))],[5],[],m⟩)
  (fun k => k ≤ h.wri.length ∧ failFrom (wriErr h.wri) k (h.wri.drop k) = wrisE h) (fun k => h.wri.length - k) 0 (fun _ => rfl) ⟨by omega,by simp [wrisE]⟩ (by (simp only [FE,↓FP,seval]); try simp) ?_
 rintro k ⟨hk,hf⟩
 simp(maxSteps:=9^9)only[↓VX,VQ,seval]
 repeat'(first|intro _|apply And.intro)
 all_goals try first|omega|(simp only[LL];omega)|exact nlC (by decide) _|exact nbC rfl
 ·have hlt : k < h.wri.length := by omega
  have e1 : h.wri[k]! = h.wri[k] := getD_any hlt
  have hsz : (h.wri[k]!).name.size ≤ 9223372036854775807 := hs.1 _ (by rw [e1]; exact List.getElem_mem hlt)
  rw [List.drop_eq_getElem_cons hlt] at hf
  have hfr := hf1 (h.wri[k]!) hsz k
  have hsh := hw (h.wri[k]!)
  have es : wriErr h.wri k h.wri[k] = if nameB (h.wri[k]!).name = true then (if (h.wri.take k).any (fun x => decide (x.name = (h.wri[k]!).name)) = true then 5 else wriFit (h.wri[k]!)) else 6 := by rw [e1]; rfl
  rw [anyW] at hfr
  have htk : (h.wri.take (k + 1)).map RWri.name = (h.wri.take k).map RWri.name ++ [(h.wri[k]!).name] := by rw [e1,List.take_succ_eq_append_getElem hlt,List.map_append]; rfl
  generalize wriFit (h.wri[k]!) = fe at *
  generalize (h.wri.take k).any (fun x => decide (x.name = (h.wri[k]!).name)) = tw at *
  have hit : wriErr h.wri k h.wri[k] ≠ 0 → wrisE h = ((k : Int),wriErr h.wri k h.wri[k]) := fun q => by rw [← hf,failFrom_hit q]
  have hskip : ¬ wriErr h.wri k h.wri[k] ≠ 0 → failFrom (wriErr h.wri) (k + 1) (h.wri.drop (k + 1)) = wrisE h := fun q => by rw [← hf,failFrom_skip q]
  generalize wriErr h.wri k h.wri[k] = se at *
  have hnl : ((h.wri.take k).map RWri.name).length ≤ 5 := by rw [List.length_map,List.length_take]; omega
  have hnl2 : (List.take k h.wri).length ≤ 5 := by rw [List.length_take]; omega
  refine acut_keep_at 6 (envCOk _ _ _) rfl rfl rfl (fun (_ : Unit) => ⟨[(1,.v (.eptr [.int .i64 h.sl,.slice 4 (h.wri.map wriA),.slice 5 (h.cus.map cusA)])),(5,.v (.slice 1 (((h.wri.take k).map RWri.name).map AV.str))),(6,.v (.int .i64 k)),(7,.v (.int .i64 (if nameB (h.wri[k]!).name = true then (if tw = true then 5 else 0) else 6)))],[5],[],m⟩) (fun _ => True) (fun _ => rfl) ?_ ?_
  ·show vcOps _ _ (_ :: _) _ _
   simp(maxSteps:=9^9)only[↓VX,VQ,seval,List.take_succ_cons,List.take_zero,SV.refs,not_false_eq_true,implies_true]
   repeat'(first|intro _|apply And.intro)
   all_goals try first|omega|(simp only[LL];omega)|exact nlC (by decide) _|exact nbC rfl
   ((refine ACall.pure (hfr) ?_; try simp(maxSteps:=9^9)only[↓VX,VQ,seval]); try simp(maxSteps:=9^9)only[↓VX,VQ,seval,GL])
   exact ⟨(),by (simp only [FE,↓FP,seval])⟩
  intro _ _
  generalize hfe : (if nameB (h.wri[k]!).name = true then (if tw = true then (5 : Int) else 0) else 6) = fr at *
  simp(maxSteps:=9^9)only[↓VX,VQ,seval,wriA,AV.cells,List.take_succ_cons,List.take_zero]
  repeat'(first|intro _|apply And.intro)
  all_goals try first|omega|(simp only[LL];omega)|exact nlC (by decide) _|exact nbC rfl
  ·have q : fr = 0 := by assumption
   have hse : se = fe := by
    rw [q] at hfe
    rw [es]
    split at hfe
    ·rename_i q1
     split at hfe
     ·cases hfe
     ·rename_i q2
      rw [if_pos q1,if_neg q2]
    ·cases hfe
   ((refine ACall.pure (hsh) ?_; try simp(maxSteps:=9^9)only[↓VX,VQ,seval]); try simp(maxSteps:=9^9)only[↓VX,VQ,seval,GL])
   repeat'(first|intro _|apply And.intro)
   all_goals try first|omega|(simp only[LL];omega)|exact nlC (by decide) _|exact nbC rfl
   ·have q2 : fe ≠ 0 := by assumption
    rw [hit (by rw [hse]; exact q2),if_pos (by rw [hse]; exact q2),hse] at e
    rw [e]
   ·have q2 : ¬ fe ≠ 0 := by assumption
    refine ⟨k + 1,⟨by omega,hskip (by rw [hse]; exact q2)⟩,by dsimp only; omega,?_⟩
    (simp only [FE,↓FP,seval])
    rw [htk]
    simp
  ·have q : ¬ fr = 0 := by assumption
   have hse : se = fr := by
    rw [es,← hfe]
    split
    ·rename_i q1
     split
     ·rfl
     ·rename_i q2
      rw [if_pos q1,if_neg q2] at hfe
      exact absurd hfe.symm q
    ·rfl
   rw [hit (by rw [hse]; exact q),if_pos (by rw [hse]; exact q),hse] at e
   rw [e]
 ·have hke : k = h.wri.length := by omega
  rw [List.drop_eq_nil_of_le (by omega)] at hf
  have hse : wrisE h = (0,0) := hf.symm
  rw [hse,if_neg (by decide)] at e
  rw [e,if_pos (by omega)]
 have hke : k = h.wri.length := by omega
 rw [List.drop_eq_nil_of_le (by omega)] at hf
 have hse : wrisE h = (0,0) := hf.symm
 have h6 : ¬ 5 < h.cus.length := by omega
 rw [hse,if_neg (by decide),if_neg h6] at e
 clear hf hse hk hke
 refine aloop (envCOk _ _ _) (fun k : Nat => ⟨[(1,.v (.eptr [.int .i64 h.sl,.slice 4 (h.wri.map wriA),.slice 5 (h.cus.map cusA)])),(5,.v (.slice 1 (((h.cus.take k).map RCus.name).map AV.str))),(8,.v (.int .i64 k))],[5],[],m⟩)
  (fun k => k ≤ h.cus.length ∧ failFrom (cusErr h.cus) k (h.cus.drop k) = cussE h) (fun k => h.cus.length - k) 0 (fun _ => rfl) ⟨by omega,by simp [cussE]⟩ (by (simp only [FE,↓FP,seval]); try simp) ?_
 rintro k ⟨hk,hf⟩
 simp(maxSteps:=9^9)only[↓VX,VQ,seval]
 repeat'(first|intro _|apply And.intro)
 all_goals try first|omega|(simp only[LL];omega)|exact nlC (by decide) _|exact nbC rfl
 ·have hlt : k < h.cus.length := by omega
  have e1 : h.cus[k]! = h.cus[k] := getD_any hlt
  have hsz : (h.cus[k]!).name.size ≤ 9223372036854775807 := hs.2 _ (by rw [e1]; exact List.getElem_mem hlt)
  rw [List.drop_eq_getElem_cons hlt] at hf
  have hfr := hf2 (h.cus[k]!) hsz k
  have hsh := hc (h.cus[k]!)
  have es : cusErr h.cus k h.cus[k] = if nameB (h.cus[k]!).name = true then (if (h.cus.take k).any (fun x => decide (x.name = (h.cus[k]!).name)) = true then 5 else cusFit (h.cus[k]!)) else 6 := by rw [e1]; rfl
  rw [anyC] at hfr
  have htk : (h.cus.take (k + 1)).map RCus.name = (h.cus.take k).map RCus.name ++ [(h.cus[k]!).name] := by rw [e1,List.take_succ_eq_append_getElem hlt,List.map_append]; rfl
  generalize cusFit (h.cus[k]!) = fe at *
  generalize (h.cus.take k).any (fun x => decide (x.name = (h.cus[k]!).name)) = tw at *
  have hit : cusErr h.cus k h.cus[k] ≠ 0 → cussE h = ((k : Int),cusErr h.cus k h.cus[k]) := fun q => by rw [← hf,failFrom_hit q]
  have hskip : ¬ cusErr h.cus k h.cus[k] ≠ 0 → failFrom (cusErr h.cus) (k + 1) (h.cus.drop (k + 1)) = cussE h := fun q => by rw [← hf,failFrom_skip q]
  generalize cusErr h.cus k h.cus[k] = se at *
  have hnl : ((h.cus.take k).map RCus.name).length ≤ 5 := by rw [List.length_map,List.length_take]; omega
  have hnl2 : (List.take k h.cus).length ≤ 5 := by rw [List.length_take]; omega
  refine acut_keep_at 6 (envCOk _ _ _) rfl rfl rfl (fun (_ : Unit) => ⟨[(1,.v (.eptr [.int .i64 h.sl,.slice 4 (h.wri.map wriA),.slice 5 (h.cus.map cusA)])),(5,.v (.slice 1 (((h.cus.take k).map RCus.name).map AV.str))),(8,.v (.int .i64 k)),(9,.v (.int .i64 (if nameB (h.cus[k]!).name = true then (if tw = true then 5 else 0) else 6)))],[5],[],m⟩) (fun _ => True) (fun _ => rfl) ?_ ?_
  ·show vcOps _ _ (_ :: _) _ _
   simp(maxSteps:=9^9)only[↓VX,VQ,seval,List.take_succ_cons,List.take_zero,SV.refs,not_false_eq_true,implies_true]
   repeat'(first|intro _|apply And.intro)
   all_goals try first|omega|(simp only[LL];omega)|exact nlC (by decide) _|exact nbC rfl
   ((refine ACall.pure (hfr) ?_; try simp(maxSteps:=9^9)only[↓VX,VQ,seval]); try simp(maxSteps:=9^9)only[↓VX,VQ,seval,GL])
   exact ⟨(),by (simp only [FE,↓FP,seval])⟩
  intro _ _
  generalize hfe : (if nameB (h.cus[k]!).name = true then (if tw = true then (5 : Int) else 0) else 6) = fr at *
  simp(maxSteps:=9^9)only[↓VX,VQ,seval,cusA,AV.cells,List.take_succ_cons,List.take_zero]
  repeat'(first|intro _|apply And.intro)
  all_goals try first|omega|(simp only[LL];omega)|exact nlC (by decide) _|exact nbC rfl
  ·have q : fr = 0 := by assumption
   have hse : se = fe := by
    rw [q] at hfe
    rw [es]
    split at hfe
    ·rename_i q1
     split at hfe
     ·cases hfe
     ·rename_i q2
      rw [if_pos q1,if_neg q2]
    ·cases hfe
   ((refine ACall.pure (hsh) ?_; try simp(maxSteps:=9^9)only[↓VX,VQ,seval]); try simp(maxSteps:=9^9)only[↓VX,VQ,seval,GL])
   repeat'(first|intro _|apply And.intro)
   all_goals try first|omega|(simp only[LL];omega)|exact nlC (by decide) _|exact nbC rfl
   ·have q2 : fe ≠ 0 := by assumption
    rw [hit (by rw [hse]; exact q2),if_pos (by rw [hse]; exact q2),hse] at e
    rw [e]
   ·have q2 : ¬ fe ≠ 0 := by assumption
    refine ⟨k + 1,⟨by omega,hskip (by rw [hse]; exact q2)⟩,by dsimp only; omega,?_⟩
    (simp only [FE,↓FP,seval])
    rw [htk]
    simp
  ·have q : ¬ fr = 0 := by assumption
   have hse : se = fr := by
    rw [es,← hfe]
    split
    ·rename_i q1
     split
     ·rfl
     ·rename_i q2
      rw [if_pos q1,if_neg q2] at hfe
      exact absurd hfe.symm q
    ·rfl
   rw [hit (by rw [hse]; exact q),if_pos (by rw [hse]; exact q),hse] at e
   rw [e]
 ·have hke : k = h.cus.length := by omega
  rw [List.drop_eq_nil_of_le (by omega)] at hf
  have hse : cussE h = (0,0) := hf.symm
  rw [hse,if_neg (by decide)] at e
  rw [e]
end Go.Proofs.YteppmjlfpniiaaaGreat.Abs
/- The abstract machine,part 27: long statements whose order is open and in which nothing is written: a quick check. -/
namespace Go.Proofs.YteppmjlfpniiaaaGreat.Abs
set_option linter.unusedSimpArgs false
open Go Go.RowKit
structure QRec where
  dst : Option Nat
  looks : List Nat
  after : List Nat
def qrec (dsts : List (Option Nat)) (o : Oper) : QRec where
  dst := o.dst
  looks := (o.op.operands.toList.filterMap fun | .tmp t => some t | _ => none) ++ (match o.guard with
    | some (g,_) => ((dsts[g]?).bind id).toList
    | none => [])
  after := (o.after.toList.filter (Region.binds .any)).map (·.on)
def apartQ (x y : QRec) : Bool :=
  (match x.dst with
   | some d => !y.looks.contains d && y.dst != some d
   | none => true) &&
  (match y.dst with
   | some d => !x.looks.contains d
   | none => true)
def pairQ (i : Nat) (x y : QRec) : Bool := y.after.contains i || apartQ x y
def qGo : List QRec → Nat → List (Nat × QRec) → Bool
  | [],_,_ => true
  | x :: r,k,prev => x.after.all (fun j => Nat.blt j k) && prev.all (fun p => pairQ p.1 p.2 x) && qGo r (k + 1) ((k,x) :: prev)
def quiet (o : Oper) : Bool := !isWriter o.op && !isNewer o.op
def qOk (ops : Array Oper) : Bool := ops.toList.all quiet && qGo (ops.toList.map (qrec (ops.toList.map (·.dst)))) 0 []
theorem qGo_spec : ∀ (r : List QRec) (k : Nat) (prev : List (Nat × QRec)),qGo r k prev = true → ∀ j y,r[j]? = some y →
    (∀ p ∈ prev,pairQ p.1 p.2 y = true) ∧ (∀ i x,i < j → r[i]? = some x → pairQ (k + i) x y = true) ∧ ∀ t ∈ y.after,t < k + j
  | [],_,_,_,j,y,h => by simp at h
  | x :: r,k,prev,h,j,y,hy => by
    unfold qGo at h
    simp only [Bool.and_eq_true,List.all_eq_true] at h
    obtain ⟨⟨h1,h2⟩,h3⟩ := h
    cases j with
    | zero =>
      simp at hy
      subst hy
      refine ⟨fun p hp => h2 p hp,fun i x hi => absurd hi (Nat.not_lt_zero _),fun t ht => ?_⟩
      have := h1 t ht
      rw [Nat.blt_eq] at this
      omega
    | succ j =>
      have ih := qGo_spec r (k + 1) ((k,x) :: prev) h3 j y (by simpa using hy)
      obtain ⟨i1,i2,i3⟩ := ih
      refine ⟨fun p hp => i1 p (by simp [hp]),fun i z hi hz => ?_,fun t ht => by have := i3 t ht; omega⟩
      cases i with
      | zero =>
        simp at hz
        subst hz
        exact i1 (k,x) (by simp)
      | succ i =>
        have := i2 i z (by omega) (by simpa using hz)
        rw [show k + (i + 1) = k + 1 + i by omega]; exact this
theorem apartQ_is {ops : Array Oper} {x y : Oper} : apartQ (qrec (ops.toList.map (·.dst)) x) (qrec (ops.toList.map (·.dst)) y) = x.apart ops y := by
  have hl : ∀ o : Oper,(qrec (ops.toList.map (·.dst)) o).looks = o.looksAt ops := fun o => by
    unfold qrec Oper.looksAt
    simp only
    congr 1
    cases o.guard with
    | none => rfl
    | some g =>
      obtain ⟨g,b⟩ := g
      simp only
      rw [List.getElem?_map,Array.getElem?_toList]
      cases ops[g]? <;> rfl
  unfold apartQ Oper.apart
  rw [hl,hl]
  rfl
section
variable {E : Env}
theorem dAny_quiet {hs : Nat → Bool} {ops : Array Oper} {Q : St → Prop} (hq : qOk ops = true) : ∀ (l : List Oper) (k : Nat) (listed : Array Bool) (st : St),(∀ j,l[j]? = ops[k + j]?) → listed.size = ops.size → (∀ i,i < ops.size → listed.getD i true = decide (i < k)) →
    dLex E (fun _ => false) hs (fun _ => 0) ops Q k l st → dAny E (fun _ => false) hs (fun _ => 0) ops Q l.length listed st
  | [],k,listed,st,hl,hsz,hL,h => by
    refine ⟨?_,h⟩
    have hk : ops.size ≤ k := by
      have := hl 0
      simp at this
      omega
    apply List.eq_nil_iff_forall_not_mem.2
    intro j hj
    obtain ⟨h1,o,h2,_⟩ := mem_ready.1 hj
    have hjs : j < ops.size := (Array.getElem?_eq_some_iff.1 h2).1
    rw [hL j hjs] at h1
    have := of_decide_eq_false h1
    omega
  | o :: l,k,listed,st,hl,hsz,hL,h => by
    have h0 : ops[k]? = some o := by simpa using (hl 0).symm
    have hks : k < ops.size := (Array.getElem?_eq_some_iff.1 h0).1
    have hl' : ∀ j,l[j]? = ops[k + 1 + j]? := fun j => by have := hl (j + 1); simpa [Nat.add_assoc,Nat.add_comm 1 j] using this
    unfold qOk at hq
    rw [Bool.and_eq_true,List.all_eq_true] at hq
    obtain ⟨q1,q2⟩ := hq
    have spec := fun (j : Nat) (oj : Oper) (hj : ops[j]? = some oj) => qGo_spec _ _ _ q2 j (qrec (ops.toList.map (·.dst)) oj) (by rw [List.getElem?_map,Array.getElem?_toList,hj]; rfl)
    have edge : ∀ (j : Nat) (oj : Oper),ops[j]? = some oj → ∀ e ∈ oj.after,Region.binds .any e = true → e.on < j := fun j oj hj e he hb => by
      have := (spec j oj hj).2.2 e.on (by
        unfold qrec
        simp only [List.mem_map,List.mem_filter]
        exact ⟨e,⟨by simpa using he,hb⟩,rfl⟩)
      omega
    have qt : ∀ (j : Nat) (oj : Oper),ops[j]? = some oj → loud 0 oj = false := fun j oj hj => by
      have := q1 oj (by simpa using Array.mem_of_getElem? hj)
      unfold quiet at this
      unfold loud
      simp only [Bool.and_eq_true,Bool.not_eq_true'] at this
      rw [this.1,this.2]; rfl
    have hr' : k ∈ Region.ready .any ops listed := by
      refine mem_ready.2 ⟨by rw [hL k hks]; simp,o,h0,fun e he hb => ?_⟩
      have h1 := edge k o h0 e he hb
      have h2 := hL e.on (by omega)
      rw [decide_eq_true h1] at h2
      rw [Array.getD_eq_getD_getElem?] at h2 ⊢
      rw [Array.getElem?_eq_getElem (show e.on < listed.size by omega)] at h2 ⊢
      exact h2
    have hcl : ClosedL ops listed := by
      intro i oi hoi hli e he hb
      have h1 := edge i oi hoi e he hb
      have his : i < ops.size := (Array.getElem?_eq_some_iff.1 hoi).1
      have h3 := hL i his
      have hgi : listed.getD i true = listed.getD i false := by
        rw [Array.getD_eq_getD_getElem?,Array.getD_eq_getD_getElem?,Array.getElem?_eq_getElem (show i < listed.size by omega)]; rfl
      rw [hgi,hli] at h3
      have h3 := of_decide_eq_true h3.symm
      have h2 := hL e.on (by omega)
      rw [decide_eq_true (show e.on < k by omega)] at h2
      rw [Array.getD_eq_getD_getElem?] at h2 ⊢
      rw [Array.getElem?_eq_getElem (show e.on < listed.size by omega)] at h2 ⊢
      exact h2
    rcases h with ⟨tk,e,h1,h2⟩ | ⟨h,_⟩ | ⟨h,_⟩
    · refine dAny_first h0 l.length listed st hcl (fun j oj hj hne hun hno => ?_) hr' h1 ?_
      · have hjs : j < ops.size := (Array.getElem?_eq_some_iff.1 hj).1
        rw [hL j hjs] at hun
        have hkj : k < j := by have := of_decide_eq_false hun; omega
        have hp := (spec j oj hj).2.1 k (qrec (ops.toList.map (·.dst)) o) hkj (by rw [List.getElem?_map,Array.getElem?_toList,h0]; rfl)
        rw [Nat.zero_add] at hp
        unfold pairQ at hp
        rw [Bool.or_eq_true] at hp
        rcases hp with hp | hp
        · exfalso
          have hm : k ∈ (qrec (ops.toList.map (·.dst)) oj).after := by simpa using hp
          unfold qrec at hm
          simp only [List.mem_map,List.mem_filter] at hm
          obtain ⟨e,⟨he,hb⟩,hon⟩ := hm
          have : behind ops 5 j k = true := by
            unfold behind
            rw [hj]
            exact Array.any_eq_true'.2 ⟨e,by simpa using he,by rw [hb,hon]; simp⟩
          rw [this] at hno; cases hno
        · rw [apartQ_is] at hp
          refine ⟨hp,fun e => (by rw [qt j oj hj] at e; cases e),fun e => (by rw [qt k o h0] at e; cases e),?_,?_,fun t ht => (by cases ht)⟩
          · refine ⟨fun q => ?_,fun q => by omega⟩
            exfalso
            have := loud_of (k := 0) (o := oj) (by rcases q with q | q | q; exact .inl q; exact absurd q (by decide); exact absurd q (by decide))
            rw [qt j oj hj] at this; cases this
          · refine ⟨fun q => ?_,fun q => by omega⟩
            exfalso
            have := loud_of (k := 0) (o := o) (by rcases q with q | q | q; exact .inl q; exact absurd q (by decide); exact absurd q (by decide))
            rw [qt k o h0] at this; cases this
      · refine dAny_quiet (by unfold qOk; rw [Bool.and_eq_true,List.all_eq_true]; exact ⟨q1,q2⟩) l (k + 1) _ _ hl' (by simpa using hsz) (fun i hi => ?_) h2
        by_cases e : k = i
        · subst e
          rw [Array.getD_eq_getD_getElem?,Array.getElem?_setIfInBounds_self_of_lt (by omega)]
          simp
        · rw [getD_set_ne true e,hL i hi,decide_eq_decide]
          omega
    · exact absurd h (by simp)
    · exact absurd h (by simp)
theorem linOf_none : ∀ (n : Nat) (l : List Oper) (t : Nat),linOf (List.replicate n ⟨false,false,0⟩) l t = false
  | 0,l,t => by cases l <;> rfl
  | n + 1,[],t => by rw [List.replicate_succ]; rfl
  | n + 1,o :: l,t => by rw [List.replicate_succ]; unfold linOf; rw [linOf_none n l t]; rfl
theorem repl_getD (n i : Nat) : (List.replicate n (⟨false,false,0⟩ : Fl)).getD i ⟨false,false,0⟩ = ⟨false,false,0⟩ := by
  rw [List.getD_eq_getElem?_getD,List.getElem?_replicate]
  split <;> rfl
theorem adrawQ (hE : EnvOk E) (hm : E.P.follows .mixedOrders = true) {ops : Array Oper} (hok : qOk ops = true) {n : Nat} {K : St → Prop} {st : St} (m : Nat)
    (h : vcOpsD E ops (List.replicate m ⟨false,false,0⟩) ops.toList K st) : ADraw E n ops K st .mk := by
  refine ⟨fun hd id r _ G w a hi hf hs => ?_⟩
  refine wpIn_region_any hm ?_
  have hl := vcOpsD_sound (fl0 := List.replicate m ⟨false,false,0⟩) (lin := fun _ => false) (K := K) ops.toList (List.replicate m ⟨false,false,0⟩) 0 st (by simp) (fun t ht => by rw [linOf_none] at ht; cases ht) h
  have e1 : hsOf (List.replicate m ⟨false,false,0⟩) = fun _ => false := by funext i; unfold hsOf; rw [repl_getD]
  have e2 : ksOf (List.replicate m ⟨false,false,0⟩) = fun _ => 0 := by funext i; unfold ksOf; rw [repl_getD]
  rw [e1,e2] at hl
  have ha := dAny_quiet (E := E) hok ops.toList 0 (Array.replicate ops.size false) st (by simp) (by simp) (fun i hi => by
    rw [Array.getD_eq_getD_getElem?,Array.getElem?_replicate,if_pos hi]; simp) hl
  have hx : Ext G w G { w with drawn := w.drawn + 1 } := ⟨rfl,rfl,Nat.le_refl _,fun _ => Nat.le_refl _,fun _ _ _ => rfl,fun _ _ => ⟨rfl,rfl⟩⟩
  have := wpAny_of_dAny hE (r := r) (Q := fun e a' w' => Sat n G w (fun e st' => e = .normal ∧ K st') e a' w') hd (fun a' w' G' st' hx' hi' hf' hs' hk => ⟨G',st',hx'.toL,hi',hf',hs',rfl,hk⟩) ops.toList.length _ _ G _ a hx
    ?_ ?_ hs ha
  · simpa using this
  · exact hi.drew
  · exact hf.drew
end
end Go.Proofs.YteppmjlfpniiaaaGreat.Abs
/- The abstract machine,part 28: differences that wrap around. -/
namespace Go.Proofs.YteppmjlfpniiaaaGreat.Abs
set_option linter.unusedSimpArgs false
open Go Go.RowKit
section
variable {E : Env} {G : Gh} {w : World} {a : Act} {st : St} {n : Nat}
end
end Go.Proofs.YteppmjlfpniiaaaGreat.Abs
/- Contracts: can,begin and look of a hall. -/
namespace Go.Proofs.YteppmjlfpniiaaaGreat.Abs
set_option linter.unusedSimpArgs false
set_option maxHeartbeats 4000000
set_option maxRecDepth 100000
open Go Go.RowKit Go.Proofs
theorem ixWri (l : List RWri) (i : Int) (K : AV → Prop) : VIdx (l.map wriA) i K ↔ (0 ≤ i ∧ i.toNat < l.length) ∧ K (.agg [.str (l[i.toNat]!).name,.int .i64 (l[i.toNat]!).kinds,.int .i64 (l[i.toNat]!).lo,.int .i64 (l[i.toNat]!).hi]) := VIdx_map wriA l i K
theorem ixCus (l : List RCus) (i : Int) (K : AV → Prop) : VIdx (l.map cusA) i K ↔ (0 ≤ i ∧ i.toNat < l.length) ∧ K (.agg [.str (l[i.toNat]!).name,.int .i64 (l[i.toNat]!).kind,.int .i64 (l[i.toNat]!).lo,.int .i64 (l[i.toNat]!).hi,.int .i64 (l[i.toNat]!).ship]) := VIdx_map cusA l i K
def hallC (h : RHall) (ws cs km : Nat) : List AV := hallL h ++ [.int .i64 ws,.int .i64 cs,.map km]
theorem dcan_c (h : RHall) (hd : DOk h) (ws cs km hb : Nat) (hws : ws < 8) (w c : Nat) (hw : w < h.wri.length) (hc : c < h.cus.length) (m : Mem) (hm : m hb = some (.cells (hallC h ws cs km))) :
  ACall Tryz.prog 86 [.ptr hb 0,.int .i64 w,.int .i64 c] m (fun r m' => r = .bool (canD h ws w c) ∧ m' = m) := by
 have hn := hd.n
 have hmn := hd.m
 have h1 := (hd.wri w hw).1
 have h2 := (hd.cus c hc).1
 have e : canD h ws w c = (ws.testBit w && bitI (h.wri[w]!).kinds (h.cus[c]!).kind) := rfl
 have t1 : ws.testBit w = decide (((ws / 2 ^ w &&& 1 : Nat) : Int) = 1) := by
  rw [Nat.and_one_is_mod,Nat.testBit_eq_decide_div_mod_eq,decide_eq_decide]
  omega
 have k1 : 0 ≤ (h.wri[w]!).kinds / 2 ^ ((h.cus[c]!).kind).toNat := Int.ediv_nonneg h1.1 (Int.le_of_lt (Int.pow_pos (by decide)))
 have k2 : (h.wri[w]!).kinds / 2 ^ ((h.cus[c]!).kind).toNat ≤ (h.wri[w]!).kinds := Int.ediv_le_self _ h1.1
 have k3 : ws / 2 ^ w ≤ ws := Nat.div_le_self _ _
 have t2 : bitI (h.wri[w]!).kinds (h.cus[c]!).kind = decide ((((h.wri[w]!).kinds / 2 ^ ((h.cus[c]!).kind).toNat).toNat &&& 1 : Nat) = (1 : Int)) := by
  unfold bitI
  generalize (h.wri[w]!).kinds / 2 ^ ((h.cus[c]!).kind).toNat = X at *
  rw [Nat.and_one_is_mod,decide_eq_decide]
  omega
 rw [t1,t2] at e
 generalize canD h ws w c = V at *
 simp only [hallC,hallL,List.cons_append,List.nil_append] at hm
 (refine acall_intro (E := envC (modeAt [] []) false []) (envCOk _ _ _) rfl Tryz.func86 rfl Tryz.call86 (by kernel_rfl) (by simp [Tryz.ntmps86]) ?_; simp only [Tryz.f86];  simp(maxSteps:=9^9)only[↓VX,VQ,seval,Int.reduceEq])
 (refine adrawQ (by first | exact envOk _ | exact envCOk _ _ _) mixed (by kernel_rfl) 32 ?_; simp only [List.replicate_succ,List.replicate_zero]; show vcOpsD _ _ _ (_ :: _) _ _)
 simp(maxSteps:=9^9)only[↓VX,VQ,seval,hm,↓ixWri,↓ixCus]
 repeat'(first|intro _|apply And.intro)
 all_goals try first|omega|(simp only[LL];omega)|exact nlC (by decide) _|exact nbC rfl
 all_goals try omega
 all_goals rw [e]
 all_goals (simp_all; done)
def standL (x : Stand) : List AV := [.int .i64 x.w,.int .i64 x.done,.int .i64 x.at_[0]!,.int .i64 x.at_[1]!,.int .i64 x.at_[2]!]
def standA (x : Stand) : AV := .agg (standL x)
def begP (h : RHall) (i j : Nat) : Int := if j < i ∧ j < h.wri.length then (h.wri[j]!).hi else 0
theorem begT_at (h : RHall) {j : Nat} (hj : j < 3) : (begT h)[j]! = begP h h.wri.length j := by
 unfold begT begP
 rw [getD_any (by simpa using hj)]
 simp
theorem dbegin_c (h : RHall) (hd : DOk h) (ws cs km hb : Nat) (m : Mem) (hm : m hb = some (.cells (hallC h ws cs km))) :
  ACall Tryz.prog 44 [.ptr hb 0] m (fun r m' => r = standA (begS h) ∧ m' = m) := by
 have hn := hd.n
 have b0 := begT_at h (j := 0) (by decide)
 have b1 := begT_at h (j := 1) (by decide)
 have b2 := begT_at h (j := 2) (by decide)
 have e : standA (begS h) = .agg [.int .i64 0,.int .i64 0,.int .i64 (begP h h.wri.length 0),.int .i64 (begP h h.wri.length 1),.int .i64 (begP h h.wri.length 2)] := by
  unfold standA standL begS
  rw [b0,b1,b2]; rfl
 rw [e]
 clear e b0 b1 b2
 simp only [hallC,hallL,List.cons_append,List.nil_append] at hm
 (refine acall_intro (E := envC (modeAt [2,3,5] []) false []) (envCOk _ _ _) rfl Tryz.func44 rfl Tryz.call44 (by kernel_rfl) (by simp [Tryz.ntmps44]) ?_; simp only [Tryz.f44];  simp(maxSteps:=9^9)only[↓VX,VQ,seval,Int.reduceEq])
 simp(maxSteps:=9^9)only[↓VX,VQ,seval,hm]
 repeat'(first|intro _|apply And.intro)
 all_goals try first|omega|(simp only[LL];omega)|exact nlC (by decide) _|exact nbC rfl
 refine aloop (envCOk _ _ _) (fun i : Nat => ⟨[(2,.loc 2 0),(3,.loc 3 0),(10,.v (.slice 4 (h.wri.map wriA))),(11,.v (.int .i64 h.wri.length)),(12,.v (.int .i64 i))],[],[(2,[.int .i64 0,.int .i64 0,.int .i64 0,.int .i64 0,.int .i64 0]),(3,[.int .i64 0,.int .i64 0,.int .i64 (begP h i 0),.int .i64 (begP h i 1),.int .i64 (begP h i 2)])],m⟩)
  (fun i => i ≤ h.wri.length) (fun i => h.wri.length - i) 0 (fun _ => rfl) (by simp) (by (simp only [FE,↓FP,seval]); try simp [begP]) ?_
 intro i hi
 rcases Nat.lt_or_ge i h.wri.length with hlt | hge
 ·have hi3 : i = 0 ∨ i = 1 ∨ i = 2 := by omega
  rcases hi3 with rfl | rfl | rfl
  all_goals
   simp(maxSteps:=9^9)only[↓VX,VQ,seval,↓ixWri,wriA,AV.cells]
   repeat'(first|intro _|apply And.intro)
   all_goals try first|omega|(simp only[LL];omega)|exact nlC (by decide) _|exact nbC rfl
  ·refine ⟨1,by omega,by dsimp only; omega,?_⟩
   (simp only [FE,↓FP,seval])
   simp [begP,hlt,overlay]
  ·refine ⟨2,by omega,by dsimp only; omega,?_⟩
   (simp only [FE,↓FP,seval])
   have : 0 < h.wri.length := by omega
   simp [begP,hlt,overlay,this]
  ·refine ⟨3,by omega,by dsimp only; omega,?_⟩
   (simp only [FE,↓FP,seval])
   have : 0 < h.wri.length := by omega
   have : 1 < h.wri.length := by omega
   simp [begP,hlt,overlay, *]
 ·have hie : i = h.wri.length := by omega
  subst hie
  simp(maxSteps:=9^9)only[↓VX,VQ,seval]
  repeat'(first|intro _|apply And.intro)
  all_goals try first|omega|(simp only[LL];omega)|exact nlC (by decide) _|exact nbC rfl
  all_goals trivial
end Go.Proofs.YteppmjlfpniiaaaGreat.Abs
