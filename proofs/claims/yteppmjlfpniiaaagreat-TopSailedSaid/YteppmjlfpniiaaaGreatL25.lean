/- The statement TopSailed: for any harbour,hall and list of numbers the law returns true. Conditions: none. -/
import Derived.Test.YteppmjlfpniiaaaGreatX26
import Derived.Test.YteppmjlfpniiaaaGreatX25
import Derived.Test.YteppmjlfpniiaaaGreatX19
import Derived.Test.YteppmjlfpniiaaaGreatX18
import Derived.Test.YteppmjlfpniiaaaGreatRows
namespace Go.Proofs.YteppmjlfpniiaaaGreat.Abs
set_option linter.unusedSimpArgs false
set_option maxHeartbeats 4000000
set_option maxRecDepth 100000
open Go Go.RowKit Go.Proofs

def bytesN (x : List Nat) : List AV := x.map fun n : Nat => AV.int .u8 n
theorem ixByte (x : List Nat) (i : Int) (K : AV → Prop) : VIdx (bytesN x) i K ↔ (0 ≤ i ∧ i.toNat < x.length) ∧ K (.int .u8 (x[i.toNat]! : Nat)) := VIdx_map (fun n : Nat => AV.int .u8 n) x i K
theorem cellsU_row {l : List RCus} {k : Nat} (hk : k < l.length) (t : List AV) : ∃ r,(cellsU l ++ t).drop (k * 5) = .str (l[k]!).name :: .int .i64 (l[k]!).kind :: .int .i64 (l[k]!).lo :: .int .i64 (l[k]!).hi :: .int .i64 (l[k]!).ship :: r := by
  induction l generalizing k with
  | nil => cases hk
  | cons x l ih =>
    rw [cellsU_cons]
    cases k with
    | zero => exact ⟨_,rfl⟩
    | succ k =>
      obtain ⟨r,e⟩ := ih (k := k) (by simpa using hk)
      refine ⟨r,?_⟩
      rw [show (k + 1) * 5 = k * 5 + 1 + 1 + 1 + 1 + 1 by omega]
      exact e
theorem cellsU_put : ∀ {l : List RCus} {k : Nat} (_ : k < l.length) (y : RCus) (t : List AV),overlay (cellsU l ++ t) (k * 5) [.str y.name,.int .i64 y.kind,.int .i64 y.lo,.int .i64 y.hi,.int .i64 y.ship] = cellsU (l.set k y) ++ t
  | [],k,h,_,_ => absurd h (Nat.not_lt_zero _)
  | x :: l,0,_,y,t => by
    rw [cellsU_cons]; rfl
  | x :: l,k + 1,h,y,t => by
    have ih := cellsU_put (l := l) (k := k) (by simpa using h) y t
    rw [cellsU_cons,List.set_cons_succ,cellsU_cons]
    simp only [List.cons_append]
    rw [← ih]
    unfold overlay
    generalize hq : [AV.str y.name,.int .i64 y.kind,.int .i64 y.lo,.int .i64 y.hi,.int .i64 y.ship] = q
    rw [show (k + 1) * 5 = k * 5 + 1 + 1 + 1 + 1 + 1 by omega,show k * 5 + 1 + 1 + 1 + 1 + 1 + q.length = k * 5 + q.length + 1 + 1 + 1 + 1 + 1 by omega]
    rfl

theorem topSailed_c (b : RHarb) (hb : hnamesFit b) (h : RHall) (hh : dnamesFit h) (x : List Nat) (hx : ∀ n ∈ x,n < 256) (m : Mem) :
    ACall Tryz.prog 3 [harbA b,hallA h,.slice 1 (bytesN x)] m fun r _ => r = .bool true := by
  have c1 := refcheck_c b hb
  have c2 := refcheckD_c h hh
  have w4 := awake4_c
  have w9 := awake9_c
  simp only [hallA,hallL,harbA,harbL] at c1 c2 ⊢
  have hbl : (bytesN x).length = x.length := by unfold bytesN; rw [List.length_map]
  (refine acall_intro (E := envC (modeAt [4,21] []) false [6,20]) (envCOk _ _ _) rfl Tryz.func3 rfl Tryz.call3 (by kernel_rfl) (by simp [Tryz.ntmps3]) ?_; simp only [Tryz.f3];  simp(maxSteps:=9^9)only[↓VX,VQ,seval,hbl])
  (refine ACall.pure (c1) ?_; try simp(maxSteps:=9^9)only[↓VX,VQ,seval,GL,hbl])
  (refine ACall.pure (c2) ?_; try simp(maxSteps:=9^9)only[↓VX,VQ,seval,GL,hbl])
  repeat'(first|intro _|apply And.intro)
  all_goals try first|omega|(simp only[LL];omega)|exact nlC (by decide) _|exact nbC rfl
  · ((refine ACall.pure (w4) ?_; try simp(maxSteps:=9^9)only[↓VX,VQ,seval]); try simp(maxSteps:=9^9)only[↓VX,VQ,seval,GL])
    ((refine ACall.pure (w9) ?_; try simp(maxSteps:=9^9)only[↓VX,VQ,seval]); try simp(maxSteps:=9^9)only[↓VX,VQ,seval,GL])
  rotate_left
  · ((refine ACall.pure (w4) ?_; try simp(maxSteps:=9^9)only[↓VX,VQ,seval]); try simp(maxSteps:=9^9)only[↓VX,VQ,seval,GL])
    ((refine ACall.pure (w9) ?_; try simp(maxSteps:=9^9)only[↓VX,VQ,seval]); try simp(maxSteps:=9^9)only[↓VX,VQ,seval,GL])
  · ((refine ACall.pure (w4) ?_; try simp(maxSteps:=9^9)only[↓VX,VQ,seval]); try simp(maxSteps:=9^9)only[↓VX,VQ,seval,GL])
    ((refine ACall.pure (w9) ?_; try simp(maxSteps:=9^9)only[↓VX,VQ,seval]); try simp(maxSteps:=9^9)only[↓VX,VQ,seval,GL])
  have k1 : (checkH b).2.2 = 0 := Decidable.of_not_not (by assumption)
  have k2 : (checkD h).2.2 = 0 := Decidable.of_not_not (by assumption)
  have k3 : ¬ (x.length : Int) = 0 := by assumption
  have hHb := hok_check k1
  have hd := dok_check k2
  clear c1 c2
  have hxl : 0 < x.length := by omega
  have hcm := hd.m
  have hfit := sail_fit hh (minuteS b x) h.cus.length
  have hbest := best_c (sailH h (minuteS b x) h.cus.length) hfit
  have hBe : hallA (sailH h (minuteS b x) h.cus.length) = .agg [.int .i64 h.sl,.slice 4 (h.wri.map wriA),.slice 5 ((sailH h (minuteS b x) h.cus.length).cus.map cusA)] := rfl
  rw [hBe] at hbest
  by_cases hcus : h.cus.length = 0
  rotate_left
  have hcpos : 0 < h.cus.length := by omega
  have hcz : ((h.cus.map cusA).map AV.cells).flatten = cellsU h.cus := rfl
  refine acut_at_k 3 (envCOk _ _ _) (V := vcThaw _) (fun h hd _ _ _ hi hf hs _ _ _ hn => vcThaw_sound (envCOk _ _ _) h hd hi hf hs hn) rfl rfl (fun q : Nat × Nat × List AV => ⟨[(2,.v (.slice 1 (bytesN x))),(3,.v (.eptr [.int .i64 b.ports,.int .i64 b.lost,.slice 5 (b.ships.map shipA),.slice 3 (b.letters.map letA),.slice 4 (b.reports.map repA)])),(4,.loc 4 0),(13,.v (.slice 1 [])),(14,.v (.slice 1 [])),(15,.v (.slice 1 []))],[13,14,15],[(4,[.int .i64 h.sl,.slice 4 (h.wri.map wriA),.mslice q.1 0 h.cus.length q.2.1])],upd m q.1 (some (.cells (cellsU h.cus ++ q.2.2)))⟩) (fun q => m q.1 = none ∧ h.cus.length ≤ q.2.1 ∧ q.2.1 ≤ maxLen) (fun _ => rfl) ?_ ?_
  · show vcOps _ _ (_ :: _) _ _
    simp(maxSteps:=9^9)only[↓VX,VQ,seval,List.take_succ_cons,List.take_zero,vcThaw]
    refine ⟨⟨hcpos,by omega⟩,fun cb cap tail q1 q2 q3 => ⟨(cb,cap,tail),⟨q1,q2,q3⟩,?_⟩⟩
    (simp only [FE,↓FP,seval])
    rw [hcz]
    exact ⟨rfl,rfl⟩
  rintro ⟨cb,cap,tail⟩ ⟨q1,q2,q3⟩
  dsimp only at q1 q2 q3
  simp(maxSteps:=9^9)only[↓VX,VQ,seval]
  refine aloop (envCOk _ _ _) (fun i : Nat => ⟨[(2,.v (.slice 1 (bytesN x))),(3,.v (.eptr [.int .i64 b.ports,.int .i64 b.lost,.slice 5 (b.ships.map shipA),.slice 3 (b.letters.map letA),.slice 4 (b.reports.map repA)])),(4,.loc 4 0),
      (13,.v (.slice 1 (((List.range i).map fun j => (shipS b x j : Int)).map (AV.int .i64)))),(14,.v (.slice 1 (((List.range i).map fun j => untilS b x j).map (AV.int .i64)))),(15,.v (.slice 1 (((List.range i).map fun j => portS b x j).map (AV.int .i64)))),(16,.v (.int .i64 i))],[13,14,15],
      [(4,[.int .i64 h.sl,.slice 4 (h.wri.map wriA),.mslice cb 0 h.cus.length cap])],upd m cb (some (.cells (cellsU (sailH h (minuteS b x) i).cus ++ tail)))⟩)
    (fun i => i ≤ h.cus.length ∧ ∀ j,j < i → sendR b (portS b x j) 0 = ((shipS b x j : Int),untilS b x j,0) ∧ shipS b x j < b.ships.length ∧ someB b = true) (fun i => h.cus.length - i) 0 (fun _ => rfl) ⟨Nat.zero_le _,fun j hj => by cases hj⟩ (by (simp only [FE,↓FP,seval]); try simp [sailH_zero]) ?_
  rintro i ⟨hi,hJ⟩
  by_cases hil : i < h.cus.length
  · have hmod : ((i : Int) % (x.length : Int)) = ((i % x.length : Nat) : Int) := rfl
    have hmlt : i % x.length < x.length := Nat.mod_lt _ hxl
    have hxi : x[i % x.length]! < 256 := hx _ (by rw [getD_any hmlt]; exact List.getElem_mem _)
    have hpi := portS_in hHb x i
    have hpe : ((x[i % x.length]! : Nat) : Int) % b.ports = portS b x i := rfl
    have hHp := hHb.p
    have hse := send_top b hb (portS b x i) 0
    have herr := sail_err k1 hpi
    have hsl : (sailH h (minuteS b x) i).cus.length = h.cus.length := sail_n _ _ _
    obtain ⟨R,hdr⟩ := cellsU_row (l := (sailH h (minuteS b x) i).cus) (k := i) (by rw [hsl]; exact hil) tail
    have hput := cellsU_put (l := (sailH h (minuteS b x) i).cus) (k := i) (by rw [hsl]; exact hil) (shipC ((sailH h (minuteS b x) i).cus[i]!) (minuteS b x i)) tail
    have hsucc := sailH_succ h (minuteS b x) hil
    have hlen := cellsU_length (sailH h (minuteS b x) i).cus
    have hsof := fun (o : Nat) (u : Int) e => shipS_of (b := b) (x := x) (i := i) (o := o) (u := u) e
    simp only [harbA,harbL] at hse
    generalize hsr : sendR b (portS b x i) 0 = SR at *
    obtain ⟨s0,u0,g0⟩ := SR
    dsimp only at hse herr
    rcases herr with herr | ⟨o,ho,herr,hsm⟩
    · have hg0 : ¬ g0 = 0 := by omega
      have hg8 : g0 = 8 ∨ g0 = 9 := herr
      simp(maxSteps:=9^9)only[↓VX,VQ,seval,hbl]
      repeat'(first|intro _|apply And.intro)
      all_goals try first|omega|(simp only[LL];omega)|exact nlC (by decide) _|exact nbC rfl
      (refine adraw (by first | exact envOk _ | exact envCOk _ _ _) mixed [⟨false,false,0⟩,⟨false,false,0⟩,⟨false,false,0⟩,⟨false,false,0⟩,⟨false,false,0⟩,⟨false,false,0⟩,⟨false,false,0⟩,⟨false,false,0⟩,⟨false,false,0⟩,⟨false,false,0⟩,⟨false,false,0⟩,⟨false,false,0⟩] (by kernel_rfl) ?_; show vcOpsD _ _ _ (_ :: _) _ _)
      simp(maxSteps:=9^9)only[↓VX,VQ,seval,↓ixByte,hmod,hpe,hbl]
      repeat'(first|intro _|apply And.intro)
      all_goals try first|omega|(simp only[LL];omega)|exact nlC (by decide) _|exact nbC rfl
      (refine ACall.pure (hse) ?_; try simp(maxSteps:=9^9)only[↓VX,VQ,seval,GL,hg0])
      rcases hg8 with rfl | rfl
      · simp(maxSteps:=9^9)only[↓VX,VQ,seval,Int.reduceEq]
        ((refine ACall.pure (w4) ?_; try simp(maxSteps:=9^9)only[↓VX,VQ,seval]); try simp(maxSteps:=9^9)only[↓VX,VQ,seval,GL])
        ((refine ACall.pure (w9) ?_; try simp(maxSteps:=9^9)only[↓VX,VQ,seval]); try simp(maxSteps:=9^9)only[↓VX,VQ,seval,GL])
      · simp(maxSteps:=9^9)only[↓VX,VQ,seval,Int.reduceEq]
        ((refine ACall.pure (w4) ?_; try simp(maxSteps:=9^9)only[↓VX,VQ,seval]); try simp(maxSteps:=9^9)only[↓VX,VQ,seval,GL])
        ((refine ACall.pure (w9) ?_; try simp(maxSteps:=9^9)only[↓VX,VQ,seval]); try simp(maxSteps:=9^9)only[↓VX,VQ,seval,GL])
    · obtain ⟨e1,e2,e3⟩ := hsof o u0 (by rw [herr])
      injection herr with z1 z2
      injection z2 with z2 z3
      subst z1 z3
      simp(maxSteps:=9^9)only[↓VX,VQ,seval,hbl]
      repeat'(first|intro _|apply And.intro)
      all_goals try first|omega|(simp only[LL];omega)|exact nlC (by decide) _|exact nbC rfl
      (refine adraw (by first | exact envOk _ | exact envCOk _ _ _) mixed [⟨false,false,0⟩,⟨false,false,0⟩,⟨false,false,0⟩,⟨false,false,0⟩,⟨false,false,0⟩,⟨false,false,0⟩,⟨false,false,0⟩,⟨false,false,0⟩,⟨false,false,0⟩,⟨false,false,0⟩,⟨false,false,0⟩,⟨false,false,0⟩] (by kernel_rfl) ?_; show vcOpsD _ _ _ (_ :: _) _ _)
      simp(maxSteps:=9^9)only[↓VX,VQ,seval,↓ixByte,hmod,hpe,hbl]
      repeat'(first|intro _|apply And.intro)
      all_goals try first|omega|(simp only[LL];omega)|exact nlC (by decide) _|exact nbC rfl
      have hso := (hHb.ship o ho).sails
      have hrl : (List.range i).length = i := List.length_range
      (refine ACall.pure (hse) ?_; try simp(maxSteps:=9^9)only[↓VX,VQ,seval,GL,Int.reduceEq,↓hdr,hsl])
      repeat'(first|intro _|apply And.intro)
      all_goals try first|omega|(simp only[LL];omega)|exact nlC (by decide) _|exact nbC rfl
      all_goals try (rw [hrl]; omega)
      refine ⟨i + 1,⟨by omega,fun j hj => ?_⟩,by dsimp only; omega,?_⟩
      · rcases Nat.lt_succ_iff_lt_or_eq.1 hj with q | rfl
        · exact hJ j q
        · exact ⟨by rw [hsr,← e1],by rw [e2]; exact ho,hsm⟩
      · have hms : minuteS b x i = 10 * (b.ships[o]!).sails := by unfold minuteS; rw [e2]
        have r1 : ((List.range (i + 1)).map fun j => (shipS b x j : Int)) = ((List.range i).map fun j => (shipS b x j : Int)) ++ [(o : Int)] := by rw [List.range_succ,List.map_append,List.map_singleton,e2]
        have r2 : ((List.range (i + 1)).map fun j => untilS b x j) = ((List.range i).map fun j => untilS b x j) ++ [u0] := by rw [List.range_succ,List.map_append,List.map_singleton,e3]
        have r3 : ((List.range (i + 1)).map fun j => portS b x j) = ((List.range i).map fun j => portS b x j) ++ [portS b x i] := by rw [List.range_succ,List.map_append,List.map_singleton]
        (simp only [FE,↓FP,seval])
        rw [r1,r2,r3,List.map_append,List.map_append,List.map_append,hsucc,← hput,hms,upd_upd]
        exact ⟨⟨rfl,rfl,rfl,rfl⟩,rfl⟩
  have hie : i = h.cus.length := by omega
  subst hie
  have hsl := sail_n h (minuteS b x) h.cus.length
  simp(maxSteps:=9^9)only[↓VX,VQ,seval]
  repeat'(first|intro _|apply And.intro)
  all_goals try first|omega|(simp only[LL];omega)|exact nlC (by decide) _|exact nbC rfl
  refine acut_meltB (envCOk _ _ _) ⟨[(3,.v (.eptr [.int .i64 b.ports,.int .i64 b.lost,.slice 5 (b.ships.map shipA),.slice 3 (b.letters.map letA),.slice 4 (b.reports.map repA)])),(4,.loc 4 0),(13,.v (.slice 1 (((List.range h.cus.length).map fun j => (shipS b x j : Int)).map (AV.int .i64)))),(14,.v (.slice 1 (((List.range h.cus.length).map fun j => untilS b x j).map (AV.int .i64)))),(15,.v (.slice 1 (((List.range h.cus.length).map fun j => portS b x j).map (AV.int .i64))))],[13,14,15],[(4,[.int .i64 h.sl,.slice 4 (h.wri.map wriA),.slice 5 ((sailH h (minuteS b x) h.cus.length).cus.map cusA)])],m⟩ (fun _ : Unit => ⟨[(3,.v (.eptr [.int .i64 b.ports,.int .i64 b.lost,.slice 5 (b.ships.map shipA),.slice 3 (b.letters.map letA),.slice 4 (b.reports.map repA)])),(4,.loc 4 0),(13,.v (.slice 1 (((List.range h.cus.length).map fun j => (shipS b x j : Int)).map (AV.int .i64)))),(14,.v (.slice 1 (((List.range h.cus.length).map fun j => untilS b x j).map (AV.int .i64)))),(15,.v (.slice 1 (((List.range h.cus.length).map fun j => portS b x j).map (AV.int .i64)))),
    (22,.v (rowsA (bestD (sailH h (minuteS b x) h.cus.length)).1)),(24,.v (.int .i64 (bestD (sailH h (minuteS b x) h.cus.length)).2.2))],[13,14,15],[(4,[.int .i64 h.sl,.slice 4 (h.wri.map wriA),.slice 5 ((sailH h (minuteS b x) h.cus.length).cus.map cusA)])],m⟩) (fun _ => ∀ j,j < h.cus.length → sendR b (portS b x j) 0 = ((shipS b x j : Int),untilS b x j,0) ∧ shipS b x j < b.ships.length ∧ someB b = true) cb 5 ((sailH h (minuteS b x) h.cus.length).cus.map cusA) tail (by rfl) (fun _ => rfl) ?_ ?_ ?_ ?_ ?_
  · show upd m cb _ cb = _
    rw [upd_same]; rfl
  · intro e he
    obtain ⟨q,_,rfl⟩ := List.mem_map.1 he
    exact ⟨rfl,rfl⟩
  · simp only [Fits,fitsV,fitsO,fitsL,Head.st,St.melt,↓upd,↓lookV,↓lookO,↓lookL,Nat.reduceEqDiff,↓reduceIte,ints,and_true,true_and,Option.some.injEq,meltV,meltA,Option.map_some,List.map_cons,List.map_nil]
    rw [if_pos ⟨by rw [List.length_map,hsl],q2,q3⟩]
    exact ⟨rfl,updUndo q1 _⟩
  · show vcOps _ _ (_ :: _) _ _
    simp(maxSteps:=9^9)only[↓VX,VQ,seval]
    ((refine ACall.pure (hbest) ?_; try simp(maxSteps:=9^9)only[↓VX,VQ,seval]); try simp(maxSteps:=9^9)only[↓VX,VQ,seval,GL])
    exact ⟨(),hJ,by (simp only [FE,↓FP,seval])⟩
  rintro _ hJ
  rotate_left
  have hcn : h.cus = [] := List.eq_nil_of_length_eq_zero hcus
  have hsn : (sailH h (minuteS b x) h.cus.length).cus = [] := List.eq_nil_of_length_eq_zero (by rw [sail_n]; exact hcus)
  refine acut (envCOk _ _ _) (fun _ : Unit => ⟨[(3,.v (.eptr [.int .i64 b.ports,.int .i64 b.lost,.slice 5 (b.ships.map shipA),.slice 3 (b.letters.map letA),.slice 4 (b.reports.map repA)])),(4,.loc 4 0),(13,.v (.slice 1 [])),(14,.v (.slice 1 [])),(15,.v (.slice 1 []))],[13,14,15],[(4,[.int .i64 h.sl,.slice 4 (h.wri.map wriA),.slice 5 []])],m⟩) (fun _ => True) (fun _ => rfl) ?_ ?_
  · show vcOps _ _ (_ :: _) _ _
    rw [hcn]
    simp(maxSteps:=9^9)only[↓VX,VQ,seval,List.map_nil,List.length_nil]
    exact ⟨(),by (simp only [FE,↓FP,seval])⟩
  rintro _ _
  simp(maxSteps:=9^9)only[↓VX,VQ,seval]
  refine aloop (envCOk _ _ _) (fun _ : Unit => ⟨[(3,.v (.eptr [.int .i64 b.ports,.int .i64 b.lost,.slice 5 (b.ships.map shipA),.slice 3 (b.letters.map letA),.slice 4 (b.reports.map repA)])),(4,.loc 4 0),(13,.v (.slice 1 [])),(14,.v (.slice 1 [])),(15,.v (.slice 1 [])),(16,.v (.int .i64 0))],[13,14,15],[(4,[.int .i64 h.sl,.slice 4 (h.wri.map wriA),.slice 5 []])],m⟩) (fun _ => True) (fun _ => 0) () (fun _ => rfl) trivial (by (simp only [FE,↓FP,seval])) ?_
  rintro _ _
  simp(maxSteps:=9^9)only[↓VX,VQ,seval,List.length_nil]
  refine acut (envCOk _ _ _) (fun _ : Unit => ⟨[(3,.v (.eptr [.int .i64 b.ports,.int .i64 b.lost,.slice 5 (b.ships.map shipA),.slice 3 (b.letters.map letA),.slice 4 (b.reports.map repA)])),(4,.loc 4 0),(13,.v (.slice 1 (((List.range h.cus.length).map fun j => (shipS b x j : Int)).map (AV.int .i64)))),(14,.v (.slice 1 (((List.range h.cus.length).map fun j => untilS b x j).map (AV.int .i64)))),(15,.v (.slice 1 (((List.range h.cus.length).map fun j => portS b x j).map (AV.int .i64)))),
      (22,.v (rowsA (bestD (sailH h (minuteS b x) h.cus.length)).1)),(24,.v (.int .i64 (bestD (sailH h (minuteS b x) h.cus.length)).2.2))],[13,14,15],[(4,[.int .i64 h.sl,.slice 4 (h.wri.map wriA),.slice 5 ((sailH h (minuteS b x) h.cus.length).cus.map cusA)])],m⟩) (fun _ => ∀ j,j < h.cus.length → sendR b (portS b x j) 0 = ((shipS b x j : Int),untilS b x j,0) ∧ shipS b x j < b.ships.length ∧ someB b = true) (fun _ => rfl) ?_ ?_
  · show vcOps _ _ (_ :: _) _ _
    rw [hsn] at hbest
    simp(maxSteps:=9^9)only[↓VX,VQ,seval,List.map_nil]
    ((refine ACall.pure (hbest) ?_; try simp(maxSteps:=9^9)only[↓VX,VQ,seval]); try simp(maxSteps:=9^9)only[↓VX,VQ,seval,GL])
    refine ⟨(),fun j hj => by omega,?_⟩
    (simp only [FE,↓FP,seval])
    rw [hsn,hcus]
    exact ⟨⟨rfl,rfl,rfl⟩,rfl⟩
  rintro _ hJ
  all_goals
    clear hcus
    have hmin : ∀ i,i < h.cus.length → 0 ≤ minuteS b x i ∧ minuteS b x i ≤ 240 := fun i hi => by
      have := (hHb.ship _ (hJ i hi).2.1).sails
      unfold minuteS
      omega
    have hchk := sail_check k2 hmin h.cus.length
    have hdH := dok_check hchk
    have hbe := best_err hchk
    have hflat := best_flat hdH
    have hgood := fun e => best_good hdH e
    have hseal := fun hs e => sealed_law hHb hs (h := h) (s := shipS b x) (u := untilS b x) (port := portS b x) (fun i _ => portS_in hHb x i) (fun i hi => (hJ i hi).1) e
    have hseal : ∀ (_ : someB b = true) (_ : (bestD (sailH h (minuteS b x) h.cus.length)).2.2 = 0),enterD (sailH h (minuteS b x) h.cus.length) (bestD (sailH h (minuteS b x) h.cus.length)).1 = 0 ∧ (endsR (sailH h (minuteS b x) h.cus.length) (bestD (sailH h (minuteS b x) h.cus.length)).1).length = h.cus.length ∧
        ∀ i,i < h.cus.length → (0 ≤ ((endsR (sailH h (minuteS b x) h.cus.length) (bestD (sailH h (minuteS b x) h.cus.length)).1)[i]!).2 ∧ ((endsR (sailH h (minuteS b x) h.cus.length) (bestD (sailH h (minuteS b x) h.cus.length)).1)[i]!).2 ≤ 240) ∧
          ∀ d : Int,d = (((endsR (sailH h (minuteS b x) h.cus.length) (bestD (sailH h (minuteS b x) h.cus.length)).1)[i]!).2 + 9) / 10 → (0 ≤ d ∧ d ≤ 24) ∧ shipS b x i < b.ships.length ∧ sendR b (portS b x i) d = ((shipS b x i : Int),untilS b x i,0) ∧ takesB (b.ships[shipS b x i]!) (portS b x i) d = true := hseal
    have hends := dEnds_c (sailH h (minuteS b x) h.cus.length) hfit (bestD (sailH h (minuteS b x) h.cus.length)).1 hflat
    rw [hBe] at hends
    have hHn := sail_n h (minuteS b x) h.cus.length
    clear hbest
    generalize hHH : sailH h (minuteS b x) h.cus.length = H at *
    generalize hBD : bestD H = BD at *
    obtain ⟨p,over,e⟩ := BD
    dsimp only at hbe hflat hgood hseal hends
    rcases hbe with rfl | rfl
    · obtain ⟨_,g2,g3,_⟩ := hgood rfl
      rw [if_pos g2] at hends
      rw [hHn] at g3
      generalize hE : endsR H p = E at *
      simp(maxSteps:=9^9)only[↓VX,VQ,seval]
      ((refine ACall.pure (hends) ?_; try simp(maxSteps:=9^9)only[↓VX,VQ,seval]); try simp(maxSteps:=9^9)only[↓VX,VQ,seval,GL])
      have hrn : (List.range h.cus.length).length = h.cus.length := List.length_range
      have hat : ∀ (f : Nat → Int) (i : Nat),i < h.cus.length → ((List.range h.cus.length).map f)[i]! = f i := fun f i hi => by rw [getD_any (by simpa using hi)]; simp
      rw [hrn,g3]
      intro _ _
      refine ⟨fun q => absurd rfl q,fun _ => ?_⟩
      refine aloop (envCOk _ _ _) (fun i : Nat => ⟨[(3,.v (.eptr [.int .i64 b.ports,.int .i64 b.lost,.slice 5 (b.ships.map shipA),.slice 3 (b.letters.map letA),.slice 4 (b.reports.map repA)])),
        (13,.v (.slice 1 (((List.range h.cus.length).map fun j => (shipS b x j : Int)).map (AV.int .i64)))),(14,.v (.slice 1 (((List.range h.cus.length).map fun j => untilS b x j).map (AV.int .i64)))),(15,.v (.slice 1 (((List.range h.cus.length).map fun j => portS b x j).map (AV.int .i64)))),
        (25,.v (.slice 2 (E.map endA))),(26,.v (.int .i64 i))],[],[],m⟩) (fun i => i ≤ h.cus.length) (fun i => h.cus.length - i) 0 (fun _ => rfl) (Nat.zero_le _) (by (simp only [FE,↓FP,seval]); try simp) ?_
      intro i hi
      by_cases hil : i < h.cus.length
      · obtain ⟨_,hsh,hsb⟩ := hJ i hil
        obtain ⟨_,_,hse3⟩ := hseal hsb rfl
        obtain ⟨hb1,hb2⟩ := hse3 i hil
        obtain ⟨d1,_,d3,d4⟩ := hb2 _ rfl
        have hsend := send_top b hb (portS b x i) (((E[i]!).2 + 9) / 10)
        rw [d3] at hsend
        have htk := reftakes_c (b.ships[shipS b x i]!) (portS b x i) (((E[i]!).2 + 9) / 10)
        rw [d4] at htk
        have hday : (E[i]!).2 + 10 - 1 = (E[i]!).2 + 9 := by omega
        simp only [harbA,harbL,shipA,shipL] at hsend htk
        have hil' : ((i : Int) < (h.cus.length : Int)) = True := by simp; exact hil
        simp(maxSteps:=9^9)only[↓VX,VQ,seval,hrn,hil',↓ixEnd,hday]
        repeat'(first|intro _|apply And.intro)
        all_goals try first|omega|(simp only[LL];omega)|exact nlC (by decide) _|exact nbC rfl
        (refine adraw (by first | exact envOk _ | exact envCOk _ _ _) mixed [⟨false,false,0⟩,⟨false,false,0⟩,⟨false,false,0⟩,⟨false,false,0⟩,⟨false,false,0⟩,⟨false,false,0⟩,⟨false,false,0⟩,⟨false,false,0⟩,⟨false,false,0⟩,⟨false,false,0⟩,⟨false,false,0⟩,⟨false,false,0⟩,⟨false,false,0⟩,⟨false,false,0⟩] (by kernel_rfl) ?_; show vcOpsD _ _ _ (_ :: _) _ _)
        have hp1 := hat (fun j => portS b x j) i hil
        have hs1 := hat (fun j => (shipS b x j : Int)) i hil
        have hu1 := hat (fun j => untilS b x j) i hil
        simp(maxSteps:=9^9)only[↓VX,VQ,seval,↓ixZ,hrn,hp1]
        repeat'(first|intro _|apply And.intro)
        all_goals try first|omega|(simp only[LL];omega)|exact nlC (by decide) _|exact nbC rfl
        (refine ⟨_,.inl (hsend),?_⟩; try simp(maxSteps:=9^9)only[↓VX,VQ,seval])
        (refine adrawQ (by first | exact envOk _ | exact envCOk _ _ _) mixed (by kernel_rfl) 32 ?_; simp only [List.replicate_succ,List.replicate_zero]; show vcOpsD _ _ _ (_ :: _) _ _)
        simp(maxSteps:=9^9)only[↓VX,VQ,seval,↓ixZ,↓ixShip,hrn,hs1,hu1,hp1,Int.reduceEq,eq_self,not_true_eq_false,decide_false,decide_true]
        repeat'(first|intro _|apply And.intro)
        all_goals try first|omega|(simp only[LL];omega)|exact nlC (by decide) _|exact nbC rfl
        (refine ⟨_,.inl (htk),?_⟩; try simp(maxSteps:=9^9)only[↓VX,VQ,seval])
        repeat'(first|intro _|apply And.intro)
        all_goals try first|omega|(simp only[LL];omega)|exact nlC (by decide) _|exact nbC rfl
        refine ⟨i + 1,by dsimp only; omega,by dsimp only; omega,?_⟩
        (simp only [FE,↓FP,seval])
        try simp
      · have hie : i = h.cus.length := by omega
        subst hie
        simp(maxSteps:=9^9)only[↓VX,VQ,seval,hrn]
        repeat'(first|intro _|apply And.intro)
        all_goals try first|omega|(simp only[LL];omega)|exact nlC (by decide) _|exact nbC rfl
        ((refine ACall.pure (w4) ?_; try simp(maxSteps:=9^9)only[↓VX,VQ,seval]); try simp(maxSteps:=9^9)only[↓VX,VQ,seval,GL])
        ((refine ACall.pure (w9) ?_; try simp(maxSteps:=9^9)only[↓VX,VQ,seval]); try simp(maxSteps:=9^9)only[↓VX,VQ,seval,GL])
    · simp(maxSteps:=9^9)only[↓VX,VQ,seval,Int.reduceEq]
      ((refine ACall.pure (w4) ?_; try simp(maxSteps:=9^9)only[↓VX,VQ,seval]); try simp(maxSteps:=9^9)only[↓VX,VQ,seval,GL])
      ((refine ACall.pure (w9) ?_; try simp(maxSteps:=9^9)only[↓VX,VQ,seval]); try simp(maxSteps:=9^9)only[↓VX,VQ,seval,GL])
end Go.Proofs.YteppmjlfpniiaaaGreat.Abs

namespace Go.Proofs.YteppmjlfpniiaaaGreat.Abs
set_option linter.unusedSimpArgs false
open Go Go.RowKit Go.Proofs
set_option maxRecDepth 100000

theorem cells_ship : Tryz.prog.cellsOf 45 = 5 := by kernel_rfl
theorem cells_call : Tryz.prog.cellsOf 120 = 2 := by kernel_rfl
theorem cells_letter : Tryz.prog.cellsOf 60 = 3 := by kernel_rfl
theorem cells_report : Tryz.prog.cellsOf 63 = 4 := by kernel_rfl
theorem cells_wri : Tryz.prog.cellsOf 65 = 4 := by kernel_rfl
theorem cells_cus : Tryz.prog.cellsOf 42 = 5 := by kernel_rfl
theorem cells_u8 : Tryz.prog.cellsOf 5 = 1 := by kernel_rfl

theorem open_call {l : List AV} (h : GoodT Tryz.prog 120 l) : ∃ x : RCall,True ∧ packT Tryz.prog 120 l = callA x := by
  obtain ⟨ls,hl,hp,hf⟩ := h.struct_inv Tryz.underlying120
  obtain ⟨a,ha,_⟩ := (hf 0 _ rfl).int_inv Tryz.underlying3
  obtain ⟨b,hb,_⟩ := (hf 1 _ rfl).int_inv Tryz.underlying3
  refine ⟨⟨a,b⟩,trivial,?_⟩
  rw [hp,hl]
  show AV.agg ((List.range 2).flatMap ls) = _
  rw [range2]
  simp only [List.flatMap_cons,List.flatMap_nil,ha,hb]
  rfl

theorem open_ship {l : List AV} (h : GoodT Tryz.prog 45 l) : ∃ x : RShip,x.name.size ≤ maxLen ∧ packT Tryz.prog 45 l = shipA x := by
  obtain ⟨ls,hl,hp,hf⟩ := h.struct_inv Tryz.underlying45
  obtain ⟨s,hs,_,hs3⟩ := (hf 0 _ rfl).str_inv Tryz.underlying9
  obtain ⟨a,ha,_⟩ := (hf 1 _ rfl).int_inv Tryz.underlying3
  obtain ⟨cs,hcs,_⟩ := (hf 2 _ rfl).slice_inv Tryz.underlying43 callA (fun _ => True) (fun l hl => open_call hl)
  obtain ⟨ms,hml,_,hmf⟩ := (hf 3 _ rfl).struct_inv Tryz.underlying40
  obtain ⟨b,hb,_⟩ := (hmf 0 _ rfl).int_inv Tryz.underlying3
  obtain ⟨c,hc,_⟩ := (hmf 1 _ rfl).int_inv Tryz.underlying3
  rw [cells_call] at hcs
  refine ⟨⟨s,a,cs,b,c⟩,hs3,?_⟩
  rw [hp,hl]
  show AV.agg ((List.range 4).flatMap ls) = _
  rw [range4]
  simp only [List.flatMap_cons,List.flatMap_nil,hs,ha,hcs,hml]
  show AV.agg (_ ++ (_ ++ (_ ++ ((List.range 2).flatMap ms ++ [])))) = _
  rw [range2]
  simp only [List.flatMap_cons,List.flatMap_nil,hb,hc]
  rfl

theorem open_letter {l : List AV} (h : GoodT Tryz.prog 60 l) : ∃ x : RLet,True ∧ packT Tryz.prog 60 l = letA x := by
  obtain ⟨ls,hl,hp,hf⟩ := h.struct_inv Tryz.underlying60
  obtain ⟨a,ha,_⟩ := (hf 0 _ rfl).int_inv Tryz.underlying3
  obtain ⟨b,hb,_⟩ := (hf 1 _ rfl).int_inv Tryz.underlying3
  obtain ⟨c,hc,_⟩ := (hf 2 _ rfl).int_inv Tryz.underlying3
  refine ⟨⟨a,b,c⟩,trivial,?_⟩
  rw [hp,hl]
  show AV.agg ((List.range 3).flatMap ls) = _
  rw [range3]
  simp only [List.flatMap_cons,List.flatMap_nil,ha,hb,hc]
  rfl

theorem open_report {l : List AV} (h : GoodT Tryz.prog 63 l) : ∃ x : RRep,True ∧ packT Tryz.prog 63 l = repA x := by
  obtain ⟨ls,hl,hp,hf⟩ := h.struct_inv Tryz.underlying63
  obtain ⟨a,ha,_⟩ := (hf 0 _ rfl).int_inv Tryz.underlying3
  obtain ⟨b,hb,_⟩ := (hf 1 _ rfl).int_inv Tryz.underlying3
  obtain ⟨c,hc,_⟩ := (hf 2 _ rfl).int_inv Tryz.underlying3
  obtain ⟨d,hd,_⟩ := (hf 3 _ rfl).int_inv Tryz.underlying3
  refine ⟨⟨a,b,c,d⟩,trivial,?_⟩
  rw [hp,hl]
  show AV.agg ((List.range 4).flatMap ls) = _
  rw [range4]
  simp only [List.flatMap_cons,List.flatMap_nil,ha,hb,hc,hd]
  rfl

/-- A harbour. -/
theorem open_harb {l : List AV} (h : GoodT Tryz.prog 26 l) : ∃ x : RHarb,hnamesFit x ∧ packT Tryz.prog 26 l = harbA x := by
  obtain ⟨ls,hl,hp,hf⟩ := h.struct_inv Tryz.underlying26
  obtain ⟨a,ha,_⟩ := (hf 0 _ rfl).int_inv Tryz.underlying3
  obtain ⟨b,hb,_⟩ := (hf 1 _ rfl).int_inv Tryz.underlying3
  obtain ⟨ss,hss,_,_,hs4,_⟩ := (hf 2 _ rfl).slice_inv Tryz.underlying22 shipA (fun x => x.name.size ≤ maxLen) (fun l hl => open_ship hl)
  obtain ⟨lt,hlt,_⟩ := (hf 3 _ rfl).slice_inv Tryz.underlying23 letA (fun _ => True) (fun l hl => open_letter hl)
  obtain ⟨rs,hrs,_⟩ := (hf 4 _ rfl).slice_inv Tryz.underlying24 repA (fun _ => True) (fun l hl => open_report hl)
  rw [cells_ship] at hss
  rw [cells_letter] at hlt
  rw [cells_report] at hrs
  have hm : maxLen ≤ 9223372036854775807 := by unfold maxLen; decide
  refine ⟨⟨a,b,ss,lt,rs⟩,fun s hs => Nat.le_trans (hs4 s hs) hm,?_⟩
  rw [hp,hl]
  show AV.agg ((List.range 5).flatMap ls) = _
  rw [range5]
  simp only [List.flatMap_cons,List.flatMap_nil,ha,hb,hss,hlt,hrs]
  rfl

theorem open_wri {l : List AV} (h : GoodT Tryz.prog 65 l) : ∃ x : RWri,x.name.size ≤ maxLen ∧ packT Tryz.prog 65 l = wriA x := by
  obtain ⟨ls,hl,hp,hf⟩ := h.struct_inv Tryz.underlying65
  obtain ⟨s,hs,_,hs3⟩ := (hf 0 _ rfl).str_inv Tryz.underlying9
  obtain ⟨a,ha,_⟩ := (hf 1 _ rfl).int_inv Tryz.underlying3
  obtain ⟨ms,hml,_,hmf⟩ := (hf 2 _ rfl).struct_inv Tryz.underlying40
  obtain ⟨b,hb,_⟩ := (hmf 0 _ rfl).int_inv Tryz.underlying3
  obtain ⟨c,hc,_⟩ := (hmf 1 _ rfl).int_inv Tryz.underlying3
  refine ⟨⟨s,a,b,c⟩,hs3,?_⟩
  rw [hp,hl]
  show AV.agg ((List.range 3).flatMap ls) = _
  rw [range3]
  simp only [List.flatMap_cons,List.flatMap_nil,hs,ha,hml]
  show AV.agg (_ ++ (_ ++ ((List.range 2).flatMap ms ++ []))) = _
  rw [range2]
  simp only [List.flatMap_cons,List.flatMap_nil,hb,hc]
  rfl

theorem open_cus {l : List AV} (h : GoodT Tryz.prog 42 l) : ∃ x : RCus,x.name.size ≤ maxLen ∧ packT Tryz.prog 42 l = cusA x := by
  obtain ⟨ls,hl,hp,hf⟩ := h.struct_inv Tryz.underlying42
  obtain ⟨s,hs,_,hs3⟩ := (hf 0 _ rfl).str_inv Tryz.underlying9
  obtain ⟨a,ha,_⟩ := (hf 1 _ rfl).int_inv Tryz.underlying3
  obtain ⟨ms,hml,_,hmf⟩ := (hf 2 _ rfl).struct_inv Tryz.underlying40
  obtain ⟨b,hb,_⟩ := (hmf 0 _ rfl).int_inv Tryz.underlying3
  obtain ⟨c,hc,_⟩ := (hmf 1 _ rfl).int_inv Tryz.underlying3
  obtain ⟨d,hd,_⟩ := (hf 3 _ rfl).int_inv Tryz.underlying3
  refine ⟨⟨s,a,b,c,d⟩,hs3,?_⟩
  rw [hp,hl]
  show AV.agg ((List.range 4).flatMap ls) = _
  rw [range4]
  simp only [List.flatMap_cons,List.flatMap_nil,hs,ha,hml,hd]
  show AV.agg (_ ++ (_ ++ ((List.range 2).flatMap ms ++ (_ ++ [])))) = _
  rw [range2]
  simp only [List.flatMap_cons,List.flatMap_nil,hb,hc]
  rfl

/-- A hall. -/
theorem open_hall {l : List AV} (h : GoodT Tryz.prog 30 l) : ∃ x : RHall,dnamesFit x ∧ packT Tryz.prog 30 l = hallA x := by
  obtain ⟨ls,hl,hp,hf⟩ := h.struct_inv Tryz.underlying30
  obtain ⟨a,ha,_⟩ := (hf 0 _ rfl).int_inv Tryz.underlying3
  obtain ⟨ws,hws,_,_,hw4,_⟩ := (hf 1 _ rfl).slice_inv Tryz.underlying27 wriA (fun x => x.name.size ≤ maxLen) (fun l hl => open_wri hl)
  obtain ⟨cs,hcs,_,_,hc4,_⟩ := (hf 2 _ rfl).slice_inv Tryz.underlying28 cusA (fun x => x.name.size ≤ maxLen) (fun l hl => open_cus hl)
  rw [cells_wri] at hws
  rw [cells_cus] at hcs
  have hm : maxLen ≤ 9223372036854775807 := by unfold maxLen; decide
  refine ⟨⟨a,ws,cs⟩,⟨fun s hs => Nat.le_trans (hw4 s hs) hm,fun s hs => Nat.le_trans (hc4 s hs) hm⟩,?_⟩
  rw [hp,hl]
  show AV.agg ((List.range 3).flatMap ls) = _
  rw [range3]
  simp only [List.flatMap_cons,List.flatMap_nil,ha,hws,hcs]
  rfl

/-- A byte. -/
theorem wf_u8 {n : Int} (h : (Lit.int .u8 n).wf = true) : ∃ k : Nat,n = k ∧ k < 256 := by
  have := bounds_u8 h
  exact ⟨n.toNat,by omega,by omega⟩

theorem open_byte {l : List AV} (h : GoodT Tryz.prog 5 l) : ∃ n : Nat,n < 256 ∧ packT Tryz.prog 5 l = .int .u8 n := by
  obtain ⟨n,_,h2,h3⟩ := h.int_inv Tryz.underlying5
  obtain ⟨k,rfl,hk⟩ := wf_u8 h3
  exact ⟨k,hk,h2⟩

/-- A slice of bytes. -/
theorem open_bytes {l : List AV} (h : GoodT Tryz.prog 31 l) : ∃ x : List Nat,(∀ n ∈ x,n < 256) ∧ packT Tryz.prog 31 l = .slice 1 (bytesN x) := by
  obtain ⟨xs,_,h2,_,h4,_⟩ := h.slice_inv Tryz.underlying31 (fun n : Nat => AV.int .u8 n) (fun n => n < 256) (fun l hl => open_byte hl)
  rw [cells_u8] at h2
  exact ⟨xs,h4,h2⟩

theorem laid_ok : laidOutB Tryz.prog = true := by kernel_rfl
theorem own_ok : ownKnob Tryz.prog.godebug = none := by kernel_rfl

theorem plain26 : (Tryz.prog.readableRec 26 = true ∧ 26 < Tryz.prog.types.size) ∧ plainT Tryz.prog 9 26 = true := ⟨⟨by kernel_rfl,of_decide_eq_true (by kernel_rfl)⟩,by kernel_rfl⟩
theorem plain30 : (Tryz.prog.readableRec 30 = true ∧ 30 < Tryz.prog.types.size) ∧ plainT Tryz.prog 9 30 = true := ⟨⟨by kernel_rfl,of_decide_eq_true (by kernel_rfl)⟩,by kernel_rfl⟩
theorem plain31 : (Tryz.prog.readableRec 31 = true ∧ 31 < Tryz.prog.types.size) ∧ plainT Tryz.prog 9 31 = true := ⟨⟨by kernel_rfl,of_decide_eq_true (by kernel_rfl)⟩,by kernel_rfl⟩
end Go.Proofs.YteppmjlfpniiaaaGreat.Abs

namespace Go.Proofs.YteppmjlfpniiaaaGreat
set_option linter.unusedSimpArgs false
open Go Go.RowKit Go.Proofs Abs
set_option maxRecDepth 100000

theorem topSailed_types : LawTypes Tryz.prog Tryz.f3 [26,30,31] 4 9 := by
  refine ⟨by rw [Tryz.params3],by kernel_rfl,Tryz.underlying4,laid_ok,fun t h => ?_⟩
  simp only [List.mem_cons,List.not_mem_nil,or_false] at h
  rcases h with rfl | rfl | rfl
  · exact plain26
  · exact plain30
  · exact plain31

theorem topSailed_all (xs : List AV) (h : GoodAll Tryz.prog [26,30,31] xs) : ∃ K : AV → Mem → Prop,ACall Tryz.prog 3 xs (fun _ => .none) K ∧ ∀ r m,K r m → r = .bool true := by
  match xs,h with
  | [a0,a1,a2],⟨⟨l0,g0,h0⟩,⟨l1,g1,h1⟩,⟨l2,g2,h2⟩,_⟩ =>
    obtain ⟨b,hb,e0⟩ := open_harb g0
    obtain ⟨g,hg,e1⟩ := open_hall g1
    obtain ⟨x,hx,e2⟩ := open_bytes g2
    rw [h0,e0,h1,e1,h2,e2]
    exact ⟨_,topSailed_c b hb g hg x hx _,fun r m h => h⟩

theorem topSailed_lifted (os : Os) (started : os.Started) (H : Type) (enc : TypeId × Value → H) :
    ReturnsInHanded {} Tryz.checked os 3 .any (Rows.topSailedSpec.pre6 enc Tryz.prog Tryz.f3 Rows.topSailedRow.domain false) (Rows.topSailedSpec.post enc Tryz.prog Tryz.f3 false true false false) := by
  refine returnsInHanded_of_change_sized (C := Tryz.checked) own_ok started (by kernel_rfl) Tryz.func3
    (ChangeSpec.witness6 (enc := enc) (C := Tryz.checked) false ⟨#[],#[.agg #[.int .i64 0,.int .i64 0,.slice .none 0 0,.slice .none 0 0,.slice .none 0 0],.agg #[.int .i64 0,.slice .none 0 0,.slice .none 0 0],.slice .none 0 0],[]⟩ 8 (by kernel_rfl) (by kernel_rfl) (by kernel_rfl) (by kernel_rfl)) ?_
  intro W base args ds gs before hval hW _ hz _
  refine law_contract topSailed_types rfl (fun ds hds => ?_) topSailed_all W base args ds gs before hval hW hz
  match ds,hds with
  | [d0,d1,d2],_ => rfl

theorem topSailed_holds : Rows.TopSailedSaid :=
  OpenClaim.holds_of_wide 3 Tryz.f3 rfl rfl rfl rfl rfl rfl rfl ⟨rfl,rfl,rfl,rfl,rfl⟩ rfl rfl rfl rfl rfl (by kernel_rfl) Tryz.func3 (by kernel_rfl)
    (of_decide_eq_true (by kernel_rfl)) (by unfold Func.isWrapper; first | (rw [if_pos (by decide +kernel)]; kernel_rfl) | (rw [if_neg (by decide +kernel)]; exact ⟨rfl,rfl⟩))
    (fun os started H enc _ => topSailed_lifted os started H enc)
end Go.Proofs.YteppmjlfpniiaaaGreat
