/- Lemmas for the statements of this seat (W15): they hold without conditions beyond those that each one states. -/
import Derived.Test.YtikodjpbknneoaaGreatW8
import Derived.Test.YtikodjpbknneoaaGreatW7
import Derived.Test.YtikodjpbknneoaaGreatW2
import Derived.Test.YtikodjpbknneoaaGreatW3
import Derived.Test.YtikodjpbknneoaaGreatW13
/- Contracts: Come. -/
namespace Go.Proofs.YtikodjpbknneoaaGreat.Abs
set_option linter.unusedSimpArgs false
set_option maxHeartbeats 4000000
set_option maxRecDepth 100000
open Go Go.RowKit Go.Proofs
theorem come_top (h : RHarb) (hs : hnamesFit h) (letter day : Int) : PCall Tryz.prog 11 [harbA h,.int .i64 letter,.int .i64 day] (.tuple [.int .i64 (comeR h letter day).1,.int .i64 (comeR h letter day).2]) := by
 intro m
 refine ACall.forget ?_
 have hen := fun other m => enter_c h hs h.letters.length other [letter] (fun q => by have := (hok_check q).nl; omega) m
 have hE := comeR_err (h := h) (letter := letter) (day := day)
 have hbad := comeR_bad (h := h) (letter := letter) (day := day)
 have hgood := comeR_good (h := h) (letter := letter) (day := day)
 have hdat := dated_c day
 have hhow := how_c
 have hd60 : datedE day = 0 → 0 ≤ day ∧ day ≤ 60 := fun e => by
  unfold datedE at e
  split at e
  ·cases e
  ·rename_i q; rwa [Bool.not_eq_true,offP_false] at q
 generalize comeR h letter day = R at *
 generalize datedE day = W at *
 simp only [harbA,harbL,ints,List.map_nil,List.map_cons] at hen ⊢
 (refine acall_intro (E := envC (modeAt [8,11,12] [10]) false []) (envCOk _ _ _) rfl Tryz.func11 rfl Tryz.call11 (by kernel_rfl) (by simp [Tryz.ntmps11]) ?_; simp only [Tryz.f11];  simp(maxSteps:=9^9)only[↓VX,VQ,seval])
 (refine adrawP (by first | exact envOk _ | exact envCOk _ _ _) mixed [12,0,1,2,3,4,5,6,7,8,9,10,11,13,14] [⟨true,false,0⟩,⟨true,false,0⟩,⟨true,false,0⟩,⟨true,false,0⟩,⟨true,false,0⟩,⟨true,false,0⟩,⟨true,false,0⟩,⟨true,false,0⟩,⟨false,false,2⟩,⟨true,false,0⟩,⟨true,false,0⟩,⟨true,false,0⟩,⟨true,false,0⟩,⟨false,false,0⟩,⟨false,false,0⟩] (by kernel_rfl) ?_; simp only [List.map_cons,List.map_nil,List.getD_cons_zero,List.getD_cons_succ,List.getElem?_cons_zero,List.getElem?_cons_succ,Option.getD_some]; show vcOpsD _ _ _ (_ :: _) _ _)
 simp(maxSteps:=9^9)only[↓VX,VQ,seval]
 repeat'(first|intro _|apply And.intro)
 refine VPure.of hdat ?_
 simp(maxSteps:=9^9)only[↓VX,VQ,seval]
 repeat'(first|intro _|apply And.intro)
 refine ACall.told (hen _ _) ?_
 rintro r m1 ⟨kk,⟨hz,rfl⟩ | ⟨hz,bm,hbm,rfl,hkn⟩⟩
 ·rw [← hE] at hz
  have hb := hbad hz
  rw [← hE]
  generalize R.2 = e at *
  subst hb
  simp(maxSteps:=9^9)only[↓VX,VQ,seval,hz]
  exact ⟨m,fun b x hx => kk b x (fun h => h) hx,rfl⟩
 ·obtain ⟨z1,z2,z3,z4⟩ := enter_zero hz
  have hle := z2 letter (by simp)
  have hd := hd60 z3
  have hh := hok_check z1
  have h3 := hh.n
  have h4 := hh.nl
  have hR := hgood (by rw [hE]; exact hz)
  have hkl : letter.toNat < h.letters.length := by omega
  have hlk : letter = ((letter.toNat : Nat) : Int) := by omega
  generalize letter.toNat = k at *
  subst hlk
  have htr := truthsF_c h 0 bm
  have hbn : ∃ y,m1 bm = some y := by obtain ⟨ls,k1,k2⟩ := hkn; exact ⟨_,k2⟩
  obtain ⟨yb,hbn⟩ := hbn
  have ht1 := fun (l : Nat) (S : Nat → Prop) (J : List (List Fate) → Mem → Prop) (F : Mem → Prop) (hy : YTok h 0 bm l S J F) (m : Mem) => truths1_c h hh 0 (by decide) bm hy m
  have hlist := fun s (q : s < 2 ^ 62) => list_c s h.ships.length q (by omega)
  have hday := fun (x : List Fate) (hx : FOk h x) (s : Nat) (q : s < h.ships.length) => day_c h hh 0 bm (fun i => x[i]!) s (h.letters[k]!).port q (hx.late _ (by rw [hx.n]; exact q))
  have hp : (2 : Nat) ^ h.ships.length ≤ 2 ^ 3 := Nat.pow_le_pow_right (by decide) h3
  simp only [lookedL,Int.natCast_zero,ints,fleetA] at htr hlist hday ⊢
  subst hR
  clear hen hbad hgood
  simp(maxSteps:=9^9)only[↓VX,VQ,seval]
  intro b10 hb10
  have n10 := ne_of_some hbn hb10
  (refine ACall.pure (htr) ?_; try simp(maxSteps:=9^9)only[↓VX,VQ,seval])
  refine ARange.freeze 8 ?_
  simp(maxSteps:=9^9)only[↓VX,VQ,seval]
  refine arange rfl (f := 77) (first := []) (caps := [.eptr [.eptr (lookedL h 0 bm)]]) (by simp(maxSteps:=9^9)only[↓VX,VQ,seval,lookedL,Int.natCast_zero]) ?_
  intro l hl
  have hl10 : l ≠ b10 := by rintro rfl; simp [upd] at hl
  have hl0 : m1 l = none := by simpa [upd,hl10] using hl
  have nl := ne_of_some hbn hl0
  generalize hR : LoopA.mk _ _ _ _ _ = R
  have hyok : YTok h 0 bm l (fun k => k = l ∨ k = b10) (fun pre m2 => m2 l = some (.loop .ready none R) ∧ m2 b10 = some (.cells [.int .i64 (cnt (fun d => decide (d ≤ day)) (daysC h k pre)),.int .i64 ((daysC h k pre).length : Nat)])) (fun _ => False) := by
   refine ⟨fun pre x m2 hn hx hin ok hk hJ => ?_,fun pre m2 m3 hJ hs => ?_⟩
   ·obtain ⟨j3,j10⟩ := hJ
    subst hR
    refine ayield (E := envC (modeAt [8,11,12] [10]) true []) (envCOk _ _ _) rfl j3 rfl (by rfl) (by rfl) (by rfl) ?_
    have hfl := nL_length (loadK h 0 x h.reports.length) 4
    have hff := nL_flat (loadK h 0 x h.reports.length) 4
    have hdr := nL_drop (f := loadK h 0 x h.reports.length) (show k < 4 by omega)
    have hat := load_at (h := h) (x := x) hkl
    have hd4 : List.drop 4 [AV.int .i64 0,AV.int .i64 0,AV.int .i64 0,AV.int .i64 0] = [] := rfl
    have hd6 : List.drop 6 [AV.int .i64 0,AV.int .i64 0,AV.int .i64 0,AV.int .i64 0,AV.int .i64 0,AV.int .i64 0] = [] := rfl
    have hgl := fleetL_length fun i => x[i]!
    have hgf := fleetL_flat fun i => x[i]!
    have hgt := fleetL_take fun i => x[i]!
    have hv2 := setOf_lt (loadB h (fun i => x[i]!) k 0 h.reports.length) h.ships.length
    have hlst := hlist (setOf (loadB h (fun i => x[i]!) k 0 h.reports.length) h.ships.length) (by omega)
    change PCall _ _ _ (.slice 1 ((goL h k x).map (AV.int .i64))) at hlst
    have hgn := goL_length h k x
    rw [hat] at hdr
    simp(maxSteps:=9^9)only[↓VX,VQ,seval,j3,loadsV,keyA,fleetA,hfl,hff,hd4,hgl,hgf,hd6]
    generalize hmB : upd m2 l (some _) = mB
    have hbl := congrFun hmB l
    rw [upd_same] at hbl
    have hbl := hbl.symm
    have hB : ∀ k,k ≠ l → mB k = m2 k := fun k hk => by rw [← hmB,upd_ne _ _ hk]
    (refine adraw (by first | exact envOk _ | exact envCOk _ _ _) mixed [⟨false,false,0⟩,⟨false,false,0⟩,⟨false,false,0⟩,⟨false,false,0⟩,⟨false,false,0⟩,⟨false,false,0⟩,⟨false,false,0⟩,⟨false,false,0⟩,⟨false,false,0⟩] (by kernel_rfl) ?_; show vcOpsD _ _ _ (_ :: _) _ _)
    simp(maxSteps:=9^9)only[↓VX,VQ,seval,hdr,hfl,hd4]
    repeat'(first|intro _|apply And.intro)
    all_goals try omega
    refine VPure.of hlst ?_
    simp(maxSteps:=9^9)only[↓VX,VQ,seval]
    have j10B : mB b10 = some (.cells [.int .i64 (cnt (fun d => decide (d ≤ day)) (daysC h k pre)),.int .i64 ((daysC h k pre).length : Nat)]) := by rw [hB _ hl10.symm]; exact j10
    have hDn := daysC_length h3 k pre
    have hrl : (rowC h k x).length = (goL h k x).length := by unfold rowC; rw [List.length_map]
    have hsn := daysC_snoc h k pre x
    refine aloop (envCOk _ _ _) (fun i : Nat => ⟨[(3,.v (.eptr [.int .i64 h.ports,.int .i64 h.lost,.slice 5 (h.ships.map shipA),.slice 3 (h.letters.map letA),.slice 4 (h.reports.map repA)])),(4,.v (.eptr [.int .i64 k])),(5,.v (.eptr [.int .i64 day])),(8,.v (.eptr [.eptr (lookedL h 0 bm)])),(10,.v (.ptr b10 0)),(11,.loc 11 0),
      (40,.v (.slice 1 ((goL h k x).map (AV.int .i64)))),(41,.v (.int .i64 (goL h k x).length)),(42,.v (.int .i64 i))],[],[(11,fleetL fun i => x[i]!)],upd mB b10 (some (.cells [.int .i64 (cnt (fun d => decide (d ≤ day)) (daysC h k pre ++ (rowC h k x).take i)),.int .i64 ((daysC h k pre ++ (rowC h k x).take i).length : Nat)]))⟩)
     (fun i => i ≤ (goL h k x).length) (fun i => (goL h k x).length - i) 0 (fun _ => rfl) (by simp) (by (simp only [FE,↓FP,seval]); rw [List.take_zero,List.append_nil,← j10B,upd_self]; simp [lookedL,hd6,SV.av]) ?_
    intro i hi
    have hlt := fun (q : i < (goL h k x).length) => getD_any q
    have hadd := fun m is hm => add_c b10 (cnt (fun d => decide (d ≤ day)) (daysC h k pre ++ (rowC h k x).take i)) ((daysC h k pre ++ (rowC h k x).take i).length : Nat) is (by have := cnt_le (fun d => decide (d ≤ day)) (daysC h k pre ++ (rowC h k x).take i); simp only [List.length_append,List.length_take] at *; omega) (by simp only [List.length_append,List.length_take]; omega) m hm
    have hcs := cnt_snoc (fun d => decide (d ≤ day)) (daysC h k pre ++ (rowC h k x).take i) (dayC h k x ((goL h k x)[i]!))
    have htk : i < (goL h k x).length → (rowC h k x).take (i + 1) = (rowC h k x).take i ++ [dayC h k x ((goL h k x)[i]!)] := fun q => by
     rw [List.take_succ_eq_append_getElem (by rw [hrl]; exact q),getD_any q]
     simp only [rowC,List.getElem_map]
    generalize hD : daysC h k pre ++ (rowC h k x).take i = D at *
    simp only [lookedL,Int.natCast_zero]
    simp(maxSteps:=9^9)only[↓VX,VQ,seval,↓ixZ]
    repeat'(first|intro _|apply And.intro)
    all_goals try omega
    ·have hil : i < (goL h k x).length := by omega
     have hgm := goL_mem (h := h) (k := k) (x := x) (s := (goL h k x)[i]!) (by rw [getD_any hil]; exact List.getElem_mem hil)
     have hdy := hday x hx ((goL h k x)[i]!).toNat hgm.2
     change PCall _ _ _ (.int .i64 (dayC h k x ((goL h k x)[i]!))) at hdy
     rw [Int.toNat_of_nonneg hgm.1] at hdy
     (refine adraw (by first | exact envOk _ | exact envCOk _ _ _) mixed [⟨false,false,0⟩,⟨false,false,0⟩,⟨true,false,0⟩,⟨true,false,0⟩,⟨true,false,0⟩,⟨true,false,0⟩,⟨true,false,0⟩,⟨true,false,0⟩,⟨true,false,0⟩,⟨false,false,0⟩,⟨true,false,0⟩,⟨false,false,0⟩,⟨false,false,2⟩] (by kernel_rfl) ?_; show vcOpsD _ _ _ (_ :: _) _ _)
     simp(maxSteps:=9^9)only[↓VX,VQ,seval,hgl,hgt]
     repeat'(first|intro _|apply And.intro)
     all_goals try omega
     refine VPure.of hdy ?_
     simp(maxSteps:=9^9)only[↓VX,VQ,seval]
     repeat'(first|intro _|apply And.intro)
     refine ACall.told (hadd _ _ (upd_same _ _ _)) ?_
     rintro r m4 rfl
     simp(maxSteps:=9^9)only[↓VX,VQ,seval]
     repeat'(first|intro _|apply And.intro)
     all_goals try omega
     refine ⟨i + 1,by dsimp only; omega,by dsimp only; omega,?_⟩
     (simp only [FE,↓FP,seval])
     rw [upd_upd,htk hil,← List.append_assoc,hD,hcs]
     simp only [decide_eq_true_eq,List.length_append,List.length_cons,List.length_nil]
     exact ⟨rfl,rfl⟩
    ·have hil : i = (goL h k x).length := by omega
     have hDe : D = daysC h k (pre ++ [x]) := by rw [hsn,← hD,hil,← hrl,List.take_length]
     subst hDe
     simp(maxSteps:=9^9)only[↓VX,VQ,seval,hl10,hl10.symm,hbl]
     refine ⟨⟨fun k y hq hy => ?_⟩,.inl ?_⟩
     ·simp only [not_or] at hq
      rw [upd_ne _ _ hq.1,upd_ne _ _ hq.2,hB _ hq.1]; exact hy
     ·trivial
   ·obtain ⟨j3,j10⟩ := hJ
    exact ⟨by rw [hs l (.inl rfl)]; exact j3,by rw [hs b10 (.inr rfl)]; exact j10⟩
  have hdom : ∀ k y,m1 k = some y → k ≠ l ∧ k ≠ b10 := fun k y hy => ⟨ne_of_some hy hl0,ne_of_some hy hb10⟩
  refine ACall.mono (ht1 l _ _ _ hyok _ ?_ ?_ ?_ ?_) ?_ <;> (try dsimp only)
  ·obtain ⟨ls,k1,k2⟩ := hkn
   exact ⟨ls,k1,by simp [upd,nl,n10]; exact k2⟩
  ·rintro k (rfl | rfl)
   ·simp [upd]
   ·simp [upd,hl10.symm]
  ·rintro (e | e)
   ·exact nl e
   ·exact n10 e
  ·refine ⟨upd_same _ _ _,?_⟩
   simp [upd,hl10.symm,daysC,cnt]
  ·rintro r m' ⟨k1,k2,k3⟩
   have kk2 : ∀ k y,m k = some y → m' k = some y ∧ k ≠ l := by
    intro k y hy
    have hy1 := kk k y (fun h => h) hy
    obtain ⟨a1,a2⟩ := hdom k y hy1
    have a5 : k ≠ bm := ne_of_some hy hbm
    exact ⟨k1 k y (by rintro ((e | e) | e); exact a1 e; exact a2 e; exact a5 e) (by simp [upd,a1,a2]; exact hy1),a1⟩
   clear ht1 hyok
   rcases k3 with ⟨L,⟨j3,j10⟩,g⟩ | hF
   ·have s1 := come_same hh (given_same hh g) hkl hd.2
    simp(maxSteps:=9^9)only[↓VX,VQ,seval,j3,j10,hl10,hl10.symm]
    repeat'(first|intro _|apply And.intro)
    refine ACall.pure (hhow _ _) ?_
    rw [s1]
    simp(maxSteps:=9^9)only[↓VX,VQ,seval]
    refine ⟨m,fun k y hy => ?_,rfl⟩
    obtain ⟨e1,e2⟩ := kk2 k y hy
    simp only [if_neg e2]
    exact e1
   ·exact hF.elim
def besideC (h : RHarb) (b : Nat) (x : List Fate) (u : Int) : List (Int × Int) := (goL h b x).map fun s => (u,dayC h b x s)
def pairC (h : RHarb) (a b : Nat) (x : List Fate) : List (Int × Int) := (goL h a x).flatMap fun s => besideC h b x (dayC h a x s)
def pairsC (h : RHarb) (a b : Nat) (L : List (List Fate)) : List (Int × Int) := L.flatMap (pairC h a b)
theorem pairsC_snoc (h : RHarb) (a b : Nat) (L : List (List Fate)) (x : List Fate) : pairsC h a b (L ++ [x]) = pairsC h a b L ++ pairC h a b x := by simp [pairsC]
theorem pairsC_length {h : RHarb} (h3 : h.ships.length ≤ 3) (a b : Nat) (L : List (List Fate)) : (pairsC h a b L).length ≤ L.length * 9 := by
 unfold pairsC
 refine flatMap_le (Nat.le_refl _) fun x _ => ?_
 unfold pairC
 refine Nat.le_trans (flatMap_le (n := 3) (c := 3) (Nat.le_trans (goL_length h a x) h3) fun s _ => ?_) (by omega)
 unfold besideC
 rw [List.length_map]
 exact Nat.le_trans (goL_length h b x) h3
def besideE (h : RHarb) (b : Nat) (t : RTru) (u : Int) : List (Int × Int) := (t.by_[b]!).map fun s => (u,dayR h t.fleet s.toNat (h.letters[b]!).port)
def pairE (h : RHarb) (a b : Nat) (t : RTru) : List (Int × Int) := (t.by_[a]!).flatMap fun s => besideE h b t (dayR h t.fleet s.toNat (h.letters[a]!).port)
def befP (d : Int × Int) : Bool := befB d.1 d.2
theorem befRow_is (h : RHarb) (t : RTru) (a b x : Nat) : ∀ n,n ≤ (t.by_[b]!).length → befRow h t a b x n = cnt befP ((besideE h b t (dayR h t.fleet x (h.letters[a]!).port)).take n)
 | 0,_ => by simp [befRow,cnt]
 | n + 1,hn => by
  have ih := befRow_is h t a b x n (by omega)
  have hlt : n < (besideE h b t (dayR h t.fleet x (h.letters[a]!).port)).length := by unfold besideE; rw [List.length_map]; omega
  have e : (besideE h b t (dayR h t.fleet x (h.letters[a]!).port))[n] = (dayR h t.fleet x (h.letters[a]!).port,dayR h t.fleet ((t.by_[b]!)[n]!).toNat (h.letters[b]!).port) := by
   rw [getD_any (show n < (t.by_[b]!).length by omega)]
   simp only [besideE,List.getElem_map]
  rw [List.take_succ_eq_append_getElem hlt,cnt_snoc,e,← ih]
  show befRow h t a b x n + (if befB (dayR h t.fleet x (h.letters[a]!).port) (dayR h t.fleet ((t.by_[b]!)[n]!).toNat (h.letters[b]!).port) = true then 1 else 0) = if befB (dayR h t.fleet x (h.letters[a]!).port) (dayR h t.fleet ((t.by_[b]!)[n]!).toNat (h.letters[b]!).port) = true then befRow h t a b x n + 1 else befRow h t a b x n
  split <;> omega
theorem befIn_is (h : RHarb) (t : RTru) (a b : Nat) : ∀ n,n ≤ (t.by_[a]!).length → befIn h t a b n = cnt befP (((t.by_[a]!).take n).flatMap fun s => besideE h b t (dayR h t.fleet s.toNat (h.letters[a]!).port)) ∧
  ((((t.by_[a]!).take n).flatMap fun s => besideE h b t (dayR h t.fleet s.toNat (h.letters[a]!).port)).length : Int) = (n : Int) * ((t.by_[b]!).length : Int)
 | 0,_ => by simp [befIn,cnt]
 | n + 1,hn => by
  obtain ⟨i1,i2⟩ := befIn_is h t a b n (by omega)
  have hb : (besideE h b t (dayR h t.fleet ((t.by_[a]!)[n]!).toNat (h.letters[a]!).port)).length = (t.by_[b]!).length := by unfold besideE; rw [List.length_map]
  rw [List.take_succ_eq_append_getElem (by omega),List.flatMap_append,List.flatMap_singleton,cnt_app,List.length_append,← i1]
  have c1 : befIn h t a b (n + 1) = befIn h t a b n + befRow h t a b ((t.by_[a]!)[n]!).toNat (t.by_[b]!).length := rfl
  have g1 : (t.by_[a]!)[n] = (t.by_[a]!)[n]! := (getD_any (show n < (t.by_[a]!).length by omega)).symm
  rw [c1,g1,befRow_is h t a b _ _ (Nat.le_refl _),← hb,List.take_length,hb]
  refine ⟨rfl,?_⟩
  rw [Int.natCast_add,i2,Int.natCast_add,Int.add_mul]
  simp
theorem befTo_is (h : RHarb) (l : List RTru) (a b : Nat) : ∀ n,n ≤ l.length → befTo h l a b n = cnt befP ((l.take n).flatMap (pairE h a b)) ∧ pairsTo l a b n = (((l.take n).flatMap (pairE h a b)).length : Int)
 | 0,_ => by simp [befTo,pairsTo,cnt]
 | n + 1,hn => by
  obtain ⟨i1,i2⟩ := befTo_is h l a b n (by omega)
  obtain ⟨j1,j2⟩ := befIn_is h (l[n]!) a b ((l[n]!).by_[a]!).length (Nat.le_refl _)
  rw [List.take_length] at j1 j2
  have g1 : l[n] = l[n]! := (getD_any (show n < l.length by omega)).symm
  rw [List.take_succ_eq_append_getElem (by omega),List.flatMap_append,List.flatMap_singleton,cnt_app,List.length_append,← i1,g1]
  have c1 : befTo h l a b (n + 1) = befTo h l a b n + befIn h (l[n]!) a b ((l[n]!).by_[a]!).length := rfl
  have c2 : pairsTo l a b (n + 1) = pairsTo l a b n + (((l[n]!).by_[a]!).length : Int) * (((l[n]!).by_[b]!).length : Int) := rfl
  rw [c1,c2,i2,j1,← j2,Int.natCast_add]
  exact ⟨rfl,rfl⟩
theorem before_same {h : RHarb} (hh : HOk h) {L : List (List Fate)} (g : Same h L) {a b : Nat} (ha : a < h.letters.length) (hb : b < h.letters.length) :
  settledR (cnt (fun d : Int × Int => decide (d.1 < d.2)) (pairsC h a b L)) (pairsC h a b L).length = settledR (befTo h (truthsR h []) a b (truthsR h []).length) (pairsTo (truthsR h []) a b (truthsR h []).length) := by
 obtain ⟨e1,e2⟩ := befTo_is h (truthsR h []) a b _ (Nat.le_refl _)
 rw [e1,e2,List.take_length]
 have key : ∀ c : Bool,(∀ d ∈ pairsC h a b L,decide (d.1 < d.2) = c) ↔ ∀ d ∈ (truthsR h []).flatMap (pairE h a b),befP d = c := fun c => by
  have h1 : (∀ d ∈ (truthsR h []).flatMap (pairE h a b),befP d = c) ↔ ∀ t ∈ truthsR h [],∀ d ∈ pairE h a b t,befP d = c := by
   simp only [List.mem_flatMap]
   exact ⟨fun q t ht d hd => q d ⟨t,ht,hd⟩,fun q d ⟨t,ht,hd⟩ => q t ht d hd⟩
  have h2 : (∀ d ∈ pairsC h a b L,decide (d.1 < d.2) = c) ↔ ∀ x ∈ L,∀ d ∈ pairC h a b x,decide (d.1 < d.2) = c := by
   unfold pairsC
   simp only [List.mem_flatMap]
   exact ⟨fun q t ht d hd => q d ⟨t,ht,hd⟩,fun q d ⟨t,ht,hd⟩ => q t ht d hd⟩
  rw [h1,h2,same_mem g (fun t => ∀ d ∈ pairE h a b t,befP d = c)]
  have h3 : ∀ x ∈ L,(∀ d ∈ pairC h a b x,decide (d.1 < d.2) = c) ↔ ∀ d ∈ pairE h a b (truOf h [] x),befP d = c := fun x hx => by
   have t1 : (∀ d ∈ pairC h a b x,decide (d.1 < d.2) = c) ↔ ∀ s ∈ goL h a x,∀ s' ∈ goL h b x,decide (dayC h a x s < dayC h b x s') = c := by
    unfold pairC besideC
    simp only [List.mem_flatMap,List.mem_map]
    exact ⟨fun q s hs s' hs' => q (_,_) ⟨s,hs,s',hs',rfl⟩,fun q d ⟨s,hs,s',hs',e⟩ => by rw [← e]; exact q s hs s' hs'⟩
   have t2 : (∀ d ∈ pairE h a b (truOf h [] x),befP d = c) ↔ ∀ s ∈ goL h a x,∀ s' ∈ goL h b x,befB (dayR h x s.toNat (h.letters[a]!).port) (dayR h x s'.toNat (h.letters[b]!).port) = c := by
    unfold pairE besideE
    rw [true_by hh (g.fok x hx) ha,true_by hh (g.fok x hx) hb]
    simp only [List.mem_flatMap,List.mem_map]
    exact ⟨fun q s hs s' hs' => q (_,_) ⟨s,hs,s',hs',rfl⟩,fun q d ⟨s,hs,s',hs',e⟩ => by rw [← e]; exact q s hs s' hs'⟩
   rw [t1,t2]
   have : ∀ s ∈ goL h a x,∀ s' ∈ goL h b x,decide (dayC h a x s < dayC h b x s') = befB (dayR h x s.toNat (h.letters[a]!).port) (dayR h x s'.toNat (h.letters[b]!).port) := fun s hs s' hs' => by
    have k1 := (goL_mem hs).2
    have k2 := (goL_mem hs').2
    have l1 := dayR_le hh (g.fok x hx) k1 (h.letters[a]!).port
    have l2 := dayR_le hh (g.fok x hx) k2 (h.letters[b]!).port
    unfold dayC dA befB untilB
    rw [dayN_R hh (g.fok x hx) k1,dayN_R hh (g.fok x hx) k2,Bool.eq_iff_iff]
    generalize dayR h x s.toNat (h.letters[a]!).port = u at *
    generalize dayR h x s'.toNat (h.letters[b]!).port = v at *
    simp only [Bool.and_eq_true,decide_eq_true_eq,Bool.not_eq_true',Bool.and_eq_false_iff,decide_eq_false_iff_not]
    by_cases q1 : u < 0 <;> by_cases q2 : v < 0 <;> simp only [q1,q2,if_true,if_false] <;> omega
   exact ⟨fun q s hs s' hs' => by rw [← this s hs s' hs']; exact q s hs s' hs',fun q s hs s' hs' => by rw [this s hs s' hs']; exact q s hs s' hs'⟩
  exact ⟨fun q x hx => (h3 x hx).1 (q x hx),fun q x hx => (h3 x hx).2 (q x hx)⟩
 exact settled_lists (key true) (key false)
theorem befE_known {h : RHarb} {one other : Int} : (knownR h (befE h one other)).2 = enterE h h.letters.length (if one = other then 2 else 0) [one,other] := by
 refine known_enter (fun q => ?_) (fun q => ?_)
 ·unfold befE; simp only [indexE_bad q,if_neg q]; rw [if_neg (fun e => q e.1)]
 ·unfold befE
  rw [q,indexE_good,indexE_good]
  simp only [List.any_cons,List.any_nil,Bool.or_false]
  cases offP 0 ((h.letters.length : Int) - 1) one <;> cases offP 0 ((h.letters.length : Int) - 1) other <;> simp
theorem beforeR_err {h : RHarb} {one other : Int} : (beforeR h one other).2 = enterE h h.letters.length (if one = other then 2 else 0) [one,other] := by
 rw [← befE_known]
 unfold beforeR
 split
 ·rename_i q; exact q.symm
 ·rfl
theorem beforeR_bad {h : RHarb} {one other : Int} (e : (beforeR h one other).2 ≠ 0) : beforeR h one other = (0,(beforeR h one other).2) := by
 unfold beforeR at e ⊢
 split at e
 ·exact absurd rfl e
 ·rename_i q; rw [if_neg q]
theorem beforeR_good {h : RHarb} {one other : Int} (e : (beforeR h one other).2 = 0) : beforeR h one other = (settledR (befTo h (truthsR h []) one.toNat other.toNat (truthsR h []).length) (pairsTo (truthsR h []) one.toNat other.toNat (truthsR h []).length),0) := by
 unfold beforeR at e ⊢
 split at e
 ·rename_i q
  obtain ⟨k1,k2,k3⟩ := known_zero q
  rw [if_pos q,k2]
 ·rename_i q; exact absurd e q
theorem before_top (h : RHarb) (hs : hnamesFit h) (one other : Int) : PCall Tryz.prog 21 [harbA h,.int .i64 one,.int .i64 other] (.tuple [.int .i64 (beforeR h one other).1,.int .i64 (beforeR h one other).2]) := by
 intro m
 refine ACall.forget ?_
 have hen := fun w m => enter_c h hs h.letters.length w [one,other] (fun q => by have := (hok_check q).nl; omega) m
 have hE := beforeR_err (h := h) (one := one) (other := other)
 have hbad := beforeR_bad (h := h) (one := one) (other := other)
 have hgood := beforeR_good (h := h) (one := one) (other := other)
 have hhow := how_c
 generalize beforeR h one other = R at *
 simp only [harbA,harbL,ints,List.map_nil,List.map_cons] at hen ⊢
 (refine acall_intro (E := envC (modeAt [9,12,13] [11]) false []) (envCOk _ _ _) rfl Tryz.func21 rfl Tryz.call21 (by kernel_rfl) (by simp [Tryz.ntmps21]) ?_; simp only [Tryz.f21];  simp(maxSteps:=9^9)only[↓VX,VQ,seval])
 repeat'(first|intro _|apply And.intro)
 ·rw [if_pos (by assumption)] at hE
  refine ACall.told (hen 2 _) ?_
  rintro r m1 ⟨kk,⟨hz,rfl⟩ | ⟨hz,_⟩⟩
  ·rw [← hE] at hz
   have hb := hbad hz
   rw [← hE]
   generalize R.2 = e at *
   subst hb
   simp(maxSteps:=9^9)only[↓VX,VQ,seval,hz]
   exact ⟨m,fun b x hx => kk b x (fun h => h) hx,rfl⟩
  ·exact absurd (enter_zero hz).2.2.1 (by decide)
 rw [if_neg (by assumption)] at hE
 refine ACall.told (hen 0 _) ?_
 rintro r m1 ⟨kk,⟨hz,rfl⟩ | ⟨hz,bm,hbm,rfl,hkn⟩⟩
 ·rw [← hE] at hz
  have hb := hbad hz
  rw [← hE]
  generalize R.2 = e at *
  subst hb
  simp(maxSteps:=9^9)only[↓VX,VQ,seval,hz]
  exact ⟨m,fun b x hx => kk b x (fun h => h) hx,rfl⟩
 ·obtain ⟨z1,z2,z3,z4⟩ := enter_zero hz
  have hle := z2 one (by simp)
  have hle2 := z2 other (by simp)
  have hh := hok_check z1
  have h3 := hh.n
  have h4 := hh.nl
  have hR := hgood (by rw [hE]; exact hz)
  have hkl : one.toNat < h.letters.length := by omega
  have hkl2 : other.toNat < h.letters.length := by omega
  have hlk : one = ((one.toNat : Nat) : Int) := by omega
  have hlk2 : other = ((other.toNat : Nat) : Int) := by omega
  generalize one.toNat = k at *
  generalize other.toNat = k2 at *
  subst hlk
  subst hlk2
  have htr := truthsF_c h 0 bm
  have hbn : ∃ y,m1 bm = some y := by obtain ⟨ls,k1,k2⟩ := hkn; exact ⟨_,k2⟩
  obtain ⟨yb,hbn⟩ := hbn
  have ht1 := fun (l : Nat) (S : Nat → Prop) (J : List (List Fate) → Mem → Prop) (F : Mem → Prop) (hy : YTok h 0 bm l S J F) (m : Mem) => truths1_c h hh 0 (by decide) bm hy m
  have hlist := fun s (q : s < 2 ^ 62) => list_c s h.ships.length q (by omega)
  have hday := fun (k : Nat) (x : List Fate) (hx : FOk h x) (s : Nat) (q : s < h.ships.length) => day_c h hh 0 bm (fun i => x[i]!) s (h.letters[k]!).port q (hx.late _ (by rw [hx.n]; exact q))
  have hp : (2 : Nat) ^ h.ships.length ≤ 2 ^ 3 := Nat.pow_le_pow_right (by decide) h3
  simp only [lookedL,Int.natCast_zero,ints,fleetA] at htr hlist hday ⊢
  subst hR
  clear hen hbad hgood
  simp(maxSteps:=9^9)only[↓VX,VQ,seval]
  intro b11 hb11
  have n11 := ne_of_some hbn hb11
  (refine ACall.pure (htr) ?_; try simp(maxSteps:=9^9)only[↓VX,VQ,seval])
  refine ARange.freeze 9 ?_
  simp(maxSteps:=9^9)only[↓VX,VQ,seval]
  refine arange rfl (f := 77) (first := []) (caps := [.eptr [.eptr (lookedL h 0 bm)]]) (by simp(maxSteps:=9^9)only[↓VX,VQ,seval,lookedL,Int.natCast_zero]) ?_
  intro l hl
  have hl11 : l ≠ b11 := by rintro rfl; simp [upd] at hl
  have hl0 : m1 l = none := by simpa [upd,hl11] using hl
  have nl := ne_of_some hbn hl0
  generalize hR : LoopA.mk _ _ _ _ _ = R
  have hyok : YTok h 0 bm l (fun k => k = l ∨ k = b11) (fun pre m2 => m2 l = some (.loop .ready none R) ∧ m2 b11 = some (.cells [.int .i64 (cnt (fun d : Int × Int => decide (d.1 < d.2)) (pairsC h k k2 pre)),.int .i64 ((pairsC h k k2 pre).length : Nat)])) (fun _ => False) := by
   refine ⟨fun pre x m2 hn hx hin ok hk hJ => ?_,fun pre m2 m3 hJ hs => ?_⟩
   ·obtain ⟨j3,j11⟩ := hJ
    subst hR
    refine ayield (E := envC (modeAt [9,12,13] [11]) true []) (envCOk _ _ _) rfl j3 rfl (by rfl) (by rfl) (by rfl) ?_
    have hfl := nL_length (loadK h 0 x h.reports.length) 4
    have hff := nL_flat (loadK h 0 x h.reports.length) 4
    have hdr := nL_drop (f := loadK h 0 x h.reports.length) (show k < 4 by omega)
    have hdr2 := nL_drop (f := loadK h 0 x h.reports.length) (show k2 < 4 by omega)
    have hat := load_at (h := h) (x := x) hkl
    have hat2 := load_at (h := h) (x := x) hkl2
    have hd4 : List.drop 4 [AV.int .i64 0,AV.int .i64 0,AV.int .i64 0,AV.int .i64 0] = [] := rfl
    have hd6 : List.drop 6 [AV.int .i64 0,AV.int .i64 0,AV.int .i64 0,AV.int .i64 0,AV.int .i64 0,AV.int .i64 0] = [] := rfl
    have hgl := fleetL_length fun i => x[i]!
    have hgf := fleetL_flat fun i => x[i]!
    have hgt := fleetL_take fun i => x[i]!
    have hv1 := setOf_lt (loadB h (fun i => x[i]!) k 0 h.reports.length) h.ships.length
    have hv2 := setOf_lt (loadB h (fun i => x[i]!) k2 0 h.reports.length) h.ships.length
    have hlst := hlist (setOf (loadB h (fun i => x[i]!) k 0 h.reports.length) h.ships.length) (by omega)
    have hlst2 := hlist (setOf (loadB h (fun i => x[i]!) k2 0 h.reports.length) h.ships.length) (by omega)
    change PCall _ _ _ (.slice 1 ((goL h k x).map (AV.int .i64))) at hlst
    change PCall _ _ _ (.slice 1 ((goL h k2 x).map (AV.int .i64))) at hlst2
    have hgn := goL_length h k x
    have hgn2 := goL_length h k2 x
    rw [hat] at hdr
    rw [hat2] at hdr2
    simp(maxSteps:=9^9)only[↓VX,VQ,seval,j3,loadsV,keyA,fleetA,hfl,hff,hd4,hgl,hgf,hd6]
    generalize hmB : upd m2 l (some _) = mB
    have hbl := congrFun hmB l
    rw [upd_same] at hbl
    have hbl := hbl.symm
    have hB : ∀ k,k ≠ l → mB k = m2 k := fun k hk => by rw [← hmB,upd_ne _ _ hk]
    (refine adraw (by first | exact envOk _ | exact envCOk _ _ _) mixed [⟨false,false,0⟩,⟨false,false,0⟩,⟨false,false,0⟩,⟨false,false,0⟩,⟨false,false,0⟩,⟨false,false,0⟩,⟨false,false,0⟩,⟨false,false,0⟩,⟨false,false,0⟩] (by kernel_rfl) ?_; show vcOpsD _ _ _ (_ :: _) _ _)
    simp(maxSteps:=9^9)only[↓VX,VQ,seval,hdr,hfl,hd4]
    repeat'(first|intro _|apply And.intro)
    all_goals try omega
    refine VPure.of hlst ?_
    simp(maxSteps:=9^9)only[↓VX,VQ,seval]
    have jB : mB b11 = some (.cells [.int .i64 (cnt (fun d : Int × Int => decide (d.1 < d.2)) (pairsC h k k2 pre)),.int .i64 ((pairsC h k k2 pre).length : Nat)]) := by rw [hB _ hl11.symm]; exact j11
    have hDn := pairsC_length h3 k k2 pre
    have hsn := pairsC_snoc h k k2 pre x
    -- the outer loop
    refine aloop (envCOk _ _ _) (fun i : Nat => ⟨[(3,.v (.eptr [.int .i64 h.ports,.int .i64 h.lost,.slice 5 (h.ships.map shipA),.slice 3 (h.letters.map letA),.slice 4 (h.reports.map repA)])),(4,.v (.eptr [.int .i64 k])),(5,.v (.eptr [.int .i64 k2])),(9,.v (.eptr [.eptr (lookedL h 0 bm)])),(11,.v (.ptr b11 0)),(12,.loc 12 0),(13,.loc 13 0),
      (47,.v (.slice 1 ((goL h k x).map (AV.int .i64)))),(48,.v (.int .i64 (goL h k x).length)),(49,.v (.int .i64 i))],[],[(12,fleetL fun i => x[i]!),(13,nL (loadK h 0 x h.reports.length) 4)],
      upd mB b11 (some (.cells [.int .i64 (cnt (fun d : Int × Int => decide (d.1 < d.2)) (pairsC h k k2 pre ++ ((goL h k x).take i).flatMap fun s => besideC h k2 x (dayC h k x s))),.int .i64 ((pairsC h k k2 pre ++ ((goL h k x).take i).flatMap fun s => besideC h k2 x (dayC h k x s)).length : Nat)]))⟩)
     (fun i => i ≤ (goL h k x).length) (fun i => (goL h k x).length - i) 0 (fun _ => rfl) (by simp) (by (simp only [FE,↓FP,seval]); rw [List.take_zero,List.flatMap_nil,List.append_nil,← jB,upd_self]; simp [lookedL,hd6,hd4,SV.av]) ?_
    intro i hi
    have htk : i < (goL h k x).length → (((goL h k x).take (i + 1)).flatMap fun s => besideC h k2 x (dayC h k x s)) = (((goL h k x).take i).flatMap fun s => besideC h k2 x (dayC h k x s)) ++ besideC h k2 x (dayC h k x ((goL h k x)[i]!)) := fun q => by
     rw [List.take_succ_eq_append_getElem q,List.flatMap_append,List.flatMap_singleton,getD_any q]
    have hDi : (((goL h k x).take i).flatMap fun s => besideC h k2 x (dayC h k x s)).length ≤ 3 * 3 := flatMap_le (by rw [List.length_take]; omega) fun s _ => by unfold besideC; rw [List.length_map]; omega
    simp only [lookedL,Int.natCast_zero]
    simp(maxSteps:=9^9)only[↓VX,VQ,seval,↓ixZ]
    repeat'(first|intro _|apply And.intro)
    all_goals try omega
    ·have hil : i < (goL h k x).length := by omega
     have hgm := goL_mem (h := h) (k := k) (x := x) (s := (goL h k x)[i]!) (by rw [getD_any hil]; exact List.getElem_mem hil)
     have hdy := hday k x hx ((goL h k x)[i]!).toNat hgm.2
     change PCall _ _ _ (.int .i64 (dayC h k x ((goL h k x)[i]!))) at hdy
     rw [Int.toNat_of_nonneg hgm.1] at hdy
     have htk := htk hil
     generalize hU : dayC h k x ((goL h k x)[i]!) = U at *
     (refine adraw (by first | exact envOk _ | exact envCOk _ _ _) mixed [⟨false,false,0⟩,⟨false,false,0⟩,⟨false,false,0⟩,⟨false,false,0⟩,⟨false,false,0⟩,⟨false,false,0⟩,⟨false,false,0⟩,⟨false,false,0⟩,⟨false,false,0⟩,⟨false,false,0⟩,⟨false,false,0⟩] (by kernel_rfl) ?_; show vcOpsD _ _ _ (_ :: _) _ _)
     simp(maxSteps:=9^9)only[↓VX,VQ,seval,hgl,hgt]
     repeat'(first|intro _|apply And.intro)
     all_goals try omega
     refine VPure.of hdy ?_
     simp(maxSteps:=9^9)only[↓VX,VQ,seval]
     (refine adraw (by first | exact envOk _ | exact envCOk _ _ _) mixed [⟨false,false,0⟩,⟨false,false,0⟩,⟨false,false,0⟩,⟨false,false,0⟩,⟨false,false,0⟩,⟨false,false,0⟩,⟨false,false,0⟩,⟨false,false,0⟩,⟨false,false,0⟩] (by kernel_rfl) ?_; show vcOpsD _ _ _ (_ :: _) _ _)
     simp(maxSteps:=9^9)only[↓VX,VQ,seval,hdr2,hfl,hd4]
     repeat'(first|intro _|apply And.intro)
     all_goals try omega
     refine VPure.of hlst2 ?_
     simp(maxSteps:=9^9)only[↓VX,VQ,seval]
     have hrl : (besideC h k2 x U).length = (goL h k2 x).length := by unfold besideC; rw [List.length_map]
     generalize hD0 : pairsC h k k2 pre ++ ((goL h k x).take i).flatMap (fun s => besideC h k2 x (dayC h k x s)) = D0 at *
     have hD0n : D0.length ≤ pre.length * 9 + 9 := by rw [← hD0,List.length_append]; omega
     refine aloop (envCOk _ _ _) (fun j : Nat => ⟨[(3,.v (.eptr [.int .i64 h.ports,.int .i64 h.lost,.slice 5 (h.ships.map shipA),.slice 3 (h.letters.map letA),.slice 4 (h.reports.map repA)])),(4,.v (.eptr [.int .i64 k])),(5,.v (.eptr [.int .i64 k2])),(9,.v (.eptr [.eptr (lookedL h 0 bm)])),(11,.v (.ptr b11 0)),(12,.loc 12 0),(13,.loc 13 0),(16,.v (.int .i64 U)),
       (47,.v (.slice 1 ((goL h k x).map (AV.int .i64)))),(48,.v (.int .i64 (goL h k x).length)),(49,.v (.int .i64 i)),(69,.v (.slice 1 ((goL h k2 x).map (AV.int .i64)))),(70,.v (.int .i64 (goL h k2 x).length)),(71,.v (.int .i64 j))],[],[(12,fleetL fun i => x[i]!),(13,nL (loadK h 0 x h.reports.length) 4)],
       upd mB b11 (some (.cells [.int .i64 (cnt (fun d : Int × Int => decide (d.1 < d.2)) (D0 ++ (besideC h k2 x U).take j)),.int .i64 ((D0 ++ (besideC h k2 x U).take j).length : Nat)]))⟩)
      (fun j => j ≤ (goL h k2 x).length) (fun j => (goL h k2 x).length - j) 0 (fun _ => rfl) (by simp) (by (simp only [FE,↓FP,seval]); rw [List.take_zero,List.append_nil]; simp [lookedL,SV.av]) ?_
     intro j hj
     have hadd := fun m is hm => add_c b11 (cnt (fun d : Int × Int => decide (d.1 < d.2)) (D0 ++ (besideC h k2 x U).take j)) ((D0 ++ (besideC h k2 x U).take j).length : Nat) is (by have := cnt_le (fun d : Int × Int => decide (d.1 < d.2)) (D0 ++ (besideC h k2 x U).take j); simp only [List.length_append,List.length_take] at *; omega) (by simp only [List.length_append,List.length_take]; omega) m hm
     have hcs := cnt_snoc (fun d : Int × Int => decide (d.1 < d.2)) (D0 ++ (besideC h k2 x U).take j) (U,dayC h k2 x ((goL h k2 x)[j]!))
     have htj : j < (goL h k2 x).length → (besideC h k2 x U).take (j + 1) = (besideC h k2 x U).take j ++ [(U,dayC h k2 x ((goL h k2 x)[j]!))] := fun q => by
      rw [List.take_succ_eq_append_getElem (by rw [hrl]; exact q),getD_any q]
      simp only [besideC,List.getElem_map]
     generalize hD : D0 ++ (besideC h k2 x U).take j = D at *
     simp only [lookedL,Int.natCast_zero]
     simp(maxSteps:=9^9)only[↓VX,VQ,seval,↓ixZ]
     repeat'(first|intro _|apply And.intro)
     all_goals try omega
     ·have hjl : j < (goL h k2 x).length := by omega
      have hgm2 := goL_mem (h := h) (k := k2) (x := x) (s := (goL h k2 x)[j]!) (by rw [getD_any hjl]; exact List.getElem_mem hjl)
      have hdy2 := hday k2 x hx ((goL h k2 x)[j]!).toNat hgm2.2
      change PCall _ _ _ (.int .i64 (dayC h k2 x ((goL h k2 x)[j]!))) at hdy2
      rw [Int.toNat_of_nonneg hgm2.1] at hdy2
      (refine adraw (by first | exact envOk _ | exact envCOk _ _ _) mixed [⟨true,false,0⟩,⟨false,false,0⟩,⟨false,false,0⟩,⟨true,false,0⟩,⟨true,false,0⟩,⟨true,false,0⟩,⟨true,false,0⟩,⟨true,false,0⟩,⟨true,false,0⟩,⟨true,false,0⟩,⟨false,false,0⟩,⟨false,false,0⟩,⟨false,false,2⟩] (by kernel_rfl) ?_; show vcOpsD _ _ _ (_ :: _) _ _)
      simp(maxSteps:=9^9)only[↓VX,VQ,seval,hgl,hgt]
      repeat'(first|intro _|apply And.intro)
      all_goals try omega
      refine VPure.of hdy2 ?_
      simp(maxSteps:=9^9)only[↓VX,VQ,seval]
      repeat'(first|intro _|apply And.intro)
      refine ACall.told (hadd _ _ (upd_same _ _ _)) ?_
      rintro r m4 rfl
      simp(maxSteps:=9^9)only[↓VX,VQ,seval]
      repeat'(first|intro _|apply And.intro)
      all_goals try omega
      refine ⟨j + 1,by dsimp only; omega,by dsimp only; omega,?_⟩
      (simp only [FE,↓FP,seval])
      rw [upd_upd,htj hjl,← List.append_assoc,hD,hcs]
      simp only [decide_eq_true_eq,List.length_append,List.length_cons,List.length_nil]
      exact ⟨rfl,rfl⟩
     ·have hjl : j = (goL h k2 x).length := by omega
      have hDe : D = pairsC h k k2 pre ++ (((goL h k x).take (i + 1)).flatMap fun s => besideC h k2 x (dayC h k x s)) := by rw [← hD,hjl,← hrl,List.take_length,htk,← List.append_assoc,hD0]
      subst hDe
      refine ⟨i + 1,by dsimp only; omega,by dsimp only; omega,?_⟩
      (simp only [FE,↓FP,seval])
      simp [lookedL]
    ·have hil : i = (goL h k x).length := by omega
     have hDe : (pairsC h k k2 pre ++ ((goL h k x).take i).flatMap fun s => besideC h k2 x (dayC h k x s)) = pairsC h k k2 (pre ++ [x]) := by rw [hsn,hil,List.take_length]; rfl
     rw [hDe]
     simp(maxSteps:=9^9)only[↓VX,VQ,seval,hl11,hl11.symm,hbl]
     refine ⟨⟨fun k y hq hy => ?_⟩,.inl ?_⟩
     ·simp only [not_or] at hq
      rw [upd_ne _ _ hq.1,upd_ne _ _ hq.2,hB _ hq.1]; exact hy
     ·trivial
   ·obtain ⟨j3,j11⟩ := hJ
    exact ⟨by rw [hs l (.inl rfl)]; exact j3,by rw [hs b11 (.inr rfl)]; exact j11⟩
  have hdom : ∀ k y,m1 k = some y → k ≠ l ∧ k ≠ b11 := fun k y hy => ⟨ne_of_some hy hl0,ne_of_some hy hb11⟩
  refine ACall.mono (ht1 l _ _ _ hyok _ ?_ ?_ ?_ ?_) ?_ <;> (try dsimp only)
  ·obtain ⟨ls,k1,k2⟩ := hkn
   exact ⟨ls,k1,by simp [upd,nl,n11]; exact k2⟩
  ·rintro k (rfl | rfl)
   ·simp [upd]
   ·simp [upd,hl11.symm]
  ·rintro (e | e)
   ·exact nl e
   ·exact n11 e
  ·refine ⟨upd_same _ _ _,?_⟩
   simp [upd,hl11.symm,pairsC,cnt]
  ·rintro r m' ⟨k1,k2',k3⟩
   have kk2 : ∀ k y,m k = some y → m' k = some y ∧ k ≠ l := by
    intro k y hy
    have hy1 := kk k y (fun h => h) hy
    obtain ⟨a1,a2⟩ := hdom k y hy1
    have a5 : k ≠ bm := ne_of_some hy hbm
    exact ⟨k1 k y (by rintro ((e | e) | e); exact a1 e; exact a2 e; exact a5 e) (by simp [upd,a1,a2]; exact hy1),a1⟩
   clear ht1 hyok
   rcases k3 with ⟨L,⟨j3,j11⟩,g⟩ | hF
   ·have s1 := before_same hh (given_same hh g) hkl hkl2
    simp(maxSteps:=9^9)only[↓VX,VQ,seval,j3,j11,hl11,hl11.symm]
    repeat'(first|intro _|apply And.intro)
    refine ACall.pure (hhow _ _) ?_
    rw [s1]
    simp(maxSteps:=9^9)only[↓VX,VQ,seval]
    refine ⟨m,fun k y hy => ?_,rfl⟩
    obtain ⟨e1,e2⟩ := kk2 k y hy
    simp only [if_neg e2]
    exact e1
   ·exact hF.elim
def lexC : List Int → List Int → Int
 | [],[] => 0
 | [],_ :: _ => -1
 | _ :: _,[] => 1
 | x :: l,y :: l' => if x < y then -1 else if y < x then 1 else lexC l l'
theorem isnan_c (a : Int) : PCall Tryz.prog 122 [.int .i64 a] (.bool false) := by
 intro m
 (refine acall_intro (E := env fun _ => .imm) (envOk _) rfl Tryz.func122 rfl Tryz.call122 (by kernel_rfl) (by simp [Tryz.ntmps122]) ?_; simp only [Tryz.f122];  simp(maxSteps:=9^9)only[↓VX,VQ,seval])
 try simp
theorem cmp_c (a b : Int) : PCall Tryz.prog 106 [.int .i64 a,.int .i64 b] (.int .i64 (if a < b then -1 else if b < a then 1 else 0)) := by
 intro m
 have h1 := isnan_c a
 have h2 := isnan_c b
 (refine acall_intro (E := env fun _ => .imm) (envOk _) rfl Tryz.func106 rfl Tryz.call106 (by kernel_rfl) (by simp [Tryz.ntmps106]) ?_; simp only [Tryz.f106];  simp(maxSteps:=9^9)only[↓VX,VQ,seval])
 ((refine ACall.pure (h1) ?_; try simp(maxSteps:=9^9)only[↓VX,VQ,seval]); try simp(maxSteps:=9^9)only[↓VX,VQ,seval,GL])
 ((refine ACall.pure (h2) ?_; try simp(maxSteps:=9^9)only[↓VX,VQ,seval]); try simp(maxSteps:=9^9)only[↓VX,VQ,seval,GL])
 repeat'(first|intro _|apply And.intro)
 ·rw [if_pos (by assumption)]
 ·rw [if_neg (by assumption),if_pos (by assumption)]
 ·rw [if_neg (by assumption),if_neg (by assumption)]
theorem compare_c (a b : List Int) : PCall Tryz.prog 59 [ints a,ints b] (.int .i64 (lexC a b)) := by
 intro m
 have hc := cmp_c
 simp only [ints]
 (refine acall_len Tryz.call59 fun hlen => ?_; refine acall_intro (E := env fun _ => .imm) (envOk _) rfl Tryz.func59 rfl Tryz.call59 (by kernel_rfl) (by simp [Tryz.ntmps59]) ?_; simp only [Tryz.f59];  simp(maxSteps:=9^9)only[↓VX,VQ,seval])
 simp only [lenOk_cons,lenOk_nil,List.length_map,and_true,maxLen_eq] at hlen
 obtain ⟨hla,hlb⟩ := hlen
 repeat'(first|intro _|apply And.intro)
 refine aloop (envOk _) (fun k : Nat => ⟨[(0,.v (.slice 1 (a.map (AV.int .i64)))),(1,.v (.slice 1 (b.map (AV.int .i64)))),(9,.v (.slice 1 (a.map (AV.int .i64)))),(10,.v (.int .i64 a.length)),(11,.v (.int .i64 k))],[],[],m⟩)
  (fun k => (k ≤ a.length ∧ k ≤ b.length) ∧ lexC (a.drop k) (b.drop k) = lexC a b) (fun k => a.length - k) 0 (fun _ => rfl) (by simp) (by (simp only [FE,↓FP,seval]); try simp) ?_
 rintro k ⟨⟨hk1,hk2⟩,hk⟩
 simp(maxSteps:=9^9)only[↓VX,VQ,seval,↓ixZ]
 repeat'(first|intro _|apply And.intro)
 all_goals try omega
 ·have h1 : k < a.length := by omega
  rw [List.drop_eq_getElem_cons h1,List.drop_eq_nil_of_le (show b.length ≤ k by omega)] at hk
  rw [← hk]; rfl
 ·have h1 : k < a.length := by omega
  have h2 : k < b.length := by omega
  rw [List.drop_eq_getElem_cons h1,List.drop_eq_getElem_cons h2] at hk
  have hc' := hc a[k]! b[k]!
  rw [getD_any h1,getD_any h2] at hc' ⊢
  have hstep : lexC (a[k] :: a.drop (k + 1)) (b[k] :: b.drop (k + 1)) = if a[k] < b[k] then -1 else if b[k] < a[k] then 1 else lexC (a.drop (k + 1)) (b.drop (k + 1)) := rfl
  rw [hstep] at hk
  refine ACall.pure hc' ?_
  simp(maxSteps:=9^9)only[↓VX,VQ,seval]
  repeat'(first|intro _|apply And.intro)
  all_goals try omega
  ·by_cases q1 : a[k] < b[k]
   ·rw [if_pos q1] at hk ⊢; rw [← hk]
   ·rw [if_neg q1] at hk ⊢
    by_cases q2 : b[k] < a[k]
    ·rw [if_pos q2] at hk ⊢; rw [← hk]
    ·rename_i hne
     rw [if_neg q1,if_neg q2] at hne
     exact absurd rfl hne
  ·rename_i hne
   have q1 : ¬ a[k] < b[k] := fun q => hne (by rw [if_pos q]; decide)
   have q2 : ¬ b[k] < a[k] := fun q => hne (by rw [if_neg q1,if_pos q]; decide)
   rw [if_neg q1,if_neg q2] at hk
   refine ⟨k + 1,⟨⟨by omega,by omega⟩,hk⟩,by dsimp only; omega,?_⟩
   (simp only [FE,↓FP,seval])
   simp
 ·have e : k = a.length := by omega
  have h2 : k < b.length := by omega
  rw [List.drop_eq_nil_of_le (show a.length ≤ k by omega),List.drop_eq_getElem_cons h2] at hk
  rw [← hk]; rfl
 ·rw [List.drop_eq_nil_of_le (show a.length ≤ k by omega),List.drop_eq_nil_of_le (show b.length ≤ k by omega)] at hk
  rw [← hk]; rfl
def ordB (l b : List Int) : Bool := decide (b.length < l.length) || (decide (l.length = b.length) && decide (0 < lexC l b))
def allChoices (n : Nat) : List (List Int) := (List.range' 0 (n + 1)).flatMap (choicesL n)
def bestTo (h : RHarb) : Nat → Option (List Int)
 | 0 => none
 | k + 1 => match bestTo h k with
  | none => if anyT h k = true then some (listTo k h.reports.length) else none
  | some b => if ordB (listTo k h.reports.length) b = true then some b else if anyT h k = true then some (listTo k h.reports.length) else some b
def choicesOk (n : Nat) : Bool := ((allChoices n).all fun c => (List.range (2 ^ n)).any fun s => listTo s n == c) && ((List.range (2 ^ n)).all fun s => (allChoices n).contains (listTo s n)) &&
 ((List.range (2 ^ n)).all fun s => (List.range (2 ^ n)).all fun t => ordB (listTo s n) (listTo t n) == decide ((allChoices n).idxOf (listTo t n) < (allChoices n).idxOf (listTo s n)))
theorem choices_ok0 : choicesOk 0 = true := by decide +kernel
theorem choices_ok1 : choicesOk 1 = true := by decide +kernel
theorem choices_ok2 : choicesOk 2 = true := by decide +kernel
theorem choices_ok3 : choicesOk 3 = true := by decide +kernel
theorem choices_ok4 : choicesOk 4 = true := by decide +kernel
theorem choices_ok5 : choicesOk 5 = true := by decide +kernel
theorem choices_ok {n : Nat} (hn : n < 6) : choicesOk n = true := by
 have : n = 0 ∨ n = 1 ∨ n = 2 ∨ n = 3 ∨ n = 4 ∨ n = 5 := by omega
 rcases this with rfl | rfl | rfl | rfl | rfl | rfl
 ·exact choices_ok0
 ·exact choices_ok1
 ·exact choices_ok2
 ·exact choices_ok3
 ·exact choices_ok4
 ·exact choices_ok5
structure Ranks (n : Nat) : Prop where
 a : ∀ c ∈ allChoices n,∃ s,s < 2 ^ n ∧ c = listTo s n
 b : ∀ s,s < 2 ^ n → listTo s n ∈ allChoices n
 c : ∀ s t,s < 2 ^ n → t < 2 ^ n → ordB (listTo s n) (listTo t n) = decide ((allChoices n).idxOf (listTo t n) < (allChoices n).idxOf (listTo s n))
theorem ranks {n : Nat} (hn : n < 6) : Ranks n := by
 have h := choices_ok hn
 unfold choicesOk at h
 simp only [Bool.and_eq_true,List.all_eq_true,List.any_eq_true,List.mem_range,beq_iff_eq,List.contains_iff_mem] at h
 obtain ⟨⟨h1,h2⟩,h3⟩ := h
 refine ⟨fun c hc => ?_,h2,fun s t hs ht => h3 s hs t ht⟩
 obtain ⟨s,hs,e⟩ := h1 c hc
 exact ⟨s,hs,e.symm⟩
theorem idx_ne {x b : List Int} (l : List (List Int)) (h : x ≠ b) : (x :: l).idxOf b = l.idxOf b + 1 := by
 rw [List.idxOf_cons,show (x == b) = false from beq_eq_false_iff_ne.2 h]; rfl
theorem find_min {p : List Int → Bool} {b : List Int} : ∀ {l : List (List Int)},b ∈ l → p b = true → (∀ c ∈ l,p c = true → l.idxOf b ≤ l.idxOf c) → l.find? p = some b
 | [],hb,_,_ => by simp at hb
 | x :: l,hb,hp,hm => by
  by_cases q : p x = true
  ·rw [List.find?_cons_of_pos q]
   have := hm x (by simp) q
   rw [List.idxOf_cons_self] at this
   by_cases e : x = b
   ·rw [e]
   ·rw [idx_ne _ e] at this; omega
  ·have hne : x ≠ b := fun e => q (by rw [e]; exact hp)
   rw [List.find?_cons_of_neg q]
   refine find_min (by rcases List.mem_cons.1 hb with e | e; exact absurd e.symm hne; exact e) hp fun c hc hpc => ?_
   have hcx : x ≠ c := fun e => q (by rw [e]; exact hpc)
   have := hm c (by simp [hc]) hpc
   rw [idx_ne _ hne,idx_ne _ hcx] at this
   omega
theorem best_is (h : RHarb) (hr : h.reports.length < 6) : ∀ k,k ≤ 2 ^ h.reports.length → match bestTo h k with
  | none => ∀ s,s < k → anyT h s = false
  | some b => ∃ s,s < k ∧ b = listTo s h.reports.length ∧ anyT h s = true ∧ ∀ t,t < k → anyT h t = true → (allChoices h.reports.length).idxOf b ≤ (allChoices h.reports.length).idxOf (listTo t h.reports.length)
 | 0,_ => by simp [bestTo]
 | k + 1,hk => by
  have R := ranks hr
  have ih := best_is h hr k (by omega)
  unfold bestTo
  cases hb : bestTo h k with
  | none =>
   rw [hb] at ih
   simp only at ih ⊢
   by_cases q : anyT h k = true
   ·rw [if_pos q]
    refine ⟨k,by omega,rfl,q,fun t ht hq => ?_⟩
    by_cases e : t = k
    ·rw [e]; exact Nat.le_refl _
    ·rw [ih t (by omega)] at hq; cases hq
   ·rw [if_neg q]
    intro s hs
    by_cases e : s = k
    ·rw [e]; exact Bool.eq_false_iff.2 q
    ·exact ih s (by omega)
  | some b =>
   rw [hb] at ih
   simp only at ih ⊢
   obtain ⟨s,hs,rfl,ho,hm⟩ := ih
   have hc := R.c k s (by omega) (by omega)
   by_cases q : ordB (listTo k h.reports.length) (listTo s h.reports.length) = true
   ·rw [if_pos q]
    rw [q] at hc
    have hc := of_decide_eq_true hc.symm
    refine ⟨s,by omega,rfl,ho,fun t ht hq => ?_⟩
    by_cases e : t = k
    ·rw [e]; omega
    ·exact hm t (by omega) hq
   ·rw [if_neg q]
    have hc : ¬ (allChoices h.reports.length).idxOf (listTo s h.reports.length) < (allChoices h.reports.length).idxOf (listTo k h.reports.length) := by
     rw [Bool.not_eq_true] at q
     rw [q] at hc
     exact of_decide_eq_false hc.symm
    by_cases q2 : anyT h k = true
    ·rw [if_pos q2]
     refine ⟨k,by omega,rfl,q2,fun t ht hq => ?_⟩
     by_cases e : t = k
     ·rw [e]; exact Nat.le_refl _
     ·have := hm t (by omega) hq; omega
    ·rw [if_neg q2]
     refine ⟨s,by omega,rfl,ho,fun t ht hq => ?_⟩
     by_cases e : t = k
     ·rw [e] at hq; exact absurd hq q2
     ·exact hm t (by omega) hq
theorem wrong_same {h : RHarb} (hh : HOk h) : bestTo h (2 ^ h.reports.length) = wrongFrom h 0 := by
 have hr : h.reports.length < 6 := by have := hh.nr; omega
 have R := ranks hr
 have hb := best_is h hr _ (Nat.le_refl _)
 have ha : ∀ s,anyT h s = okT h (listTo s h.reports.length) := fun s => any_truth hh s
 unfold wrongFrom
 change _ = (allChoices h.reports.length).find? (okT h)
 cases hB : bestTo h (2 ^ h.reports.length) with
 | none =>
  rw [hB] at hb
  simp only at hb
  symm
  rw [List.find?_eq_none]
  intro c hc
  obtain ⟨s,hs,rfl⟩ := R.a c hc
  rw [← ha,hb s hs]; simp
 | some b =>
  rw [hB] at hb
  simp only at hb
  obtain ⟨s,hs,rfl,ho,hm⟩ := hb
  symm
  refine find_min (R.b s hs) (by rw [← ha]; exact ho) fun c hc hq => ?_
  obtain ⟨t,ht,rfl⟩ := R.a c hc
  exact hm t ht (by rw [ha]; exact hq)
theorem bestTo_succ (h : RHarb) (k : Nat) : bestTo h (k + 1) = match bestTo h k with
  | none => if anyT h k = true then some (listTo k h.reports.length) else none
  | some b => if ordB (listTo k h.reports.length) b = true then some b else if anyT h k = true then some (listTo k h.reports.length) else some b := rfl
theorem wrong_top (h : RHarb) (hs : hnamesFit h) : PCall Tryz.prog 22 [harbA h] (.tuple [ints (wrongR h).1,.int .i64 (wrongR h).2]) := by
 intro m
 refine ACall.forget ?_
 have hck := check_c h hs
 have hW : wrongR h = if (checkH h).2.2 = 0 then wrongOf (wrongFrom h 0) else ([],(checkH h).2.2) := rfl
 have hok := fun (q : (checkH h).2.2 = 0) => hok_check q
 generalize hX : wrongR h = X at *
 generalize hC : checkH h = C at *
 simp only [harbA,harbL,ints] at hck ⊢
 (refine acall_intro (E := env fun _ => .imm) (envOk _) rfl Tryz.func22 rfl Tryz.call22 (by kernel_rfl) (by simp [Tryz.ntmps22]) ?_; simp only [Tryz.f22];  simp(maxSteps:=9^9)only[↓VX,VQ,seval])
 ((refine ACall.pure (hck) ?_; try simp(maxSteps:=9^9)only[↓VX,VQ,seval]); try simp(maxSteps:=9^9)only[↓VX,VQ,seval,GL])
 repeat'(first|intro _|apply And.intro)
 ·have q : ¬ C.2.2 = 0 := by assumption
  rw [if_neg q] at hW
  rw [hW]
  exact ⟨m,fun _ _ h => h,by first | rfl | exact ⟨rfl,rfl⟩⟩
 all_goals try omega
 all_goals have q : C.2.2 = 0 := by omega
 all_goals have hh := hok q
 all_goals have hr5 := hh.nr
 all_goals have hp : (2 : Nat) ^ h.reports.length ≤ 2 ^ 5 := Nat.pow_le_pow_right (by decide) hr5
 all_goals try omega
 all_goals try exact Int.le_trans (by decide) (Int.natCast_nonneg _)
 rw [if_pos q,← wrong_same hh] at hW
 have hlist := fun s (q : s < 2 ^ 62) => list_c s h.reports.length q (by omega)
 have hlook := fun (b : Nat) m => look_c h (b : Int) m
 have hsome := fun (b : Nat) (q : b < 2 ^ 32) (bm : Nat) (m : Mem) => someT_c h hh b q bm m
 have hcmp := compare_c
 have hlen := fun s => listTo_length s h.reports.length
 simp only [harbA,harbL,ints,lookedL] at hlist hlook hsome hcmp
 refine aloop (envOk _) (fun x : Nat × Mem => ⟨[(1,.v (.eptr [.int .i64 h.ports,.int .i64 h.lost,.slice 5 (h.ships.map shipA),.slice 3 (h.letters.map letA),.slice 4 (h.reports.map repA)])),(2,.v (.slice 1 (((bestTo h x.1).getD []).map (AV.int .i64)))),(4,.v (.bool (bestTo h x.1).isSome)),(19,.v (.int .i64 (2 ^ h.reports.length : Nat))),(20,.v (.int .i64 x.1))],[],[],x.2⟩)
  (fun x => x.1 ≤ 2 ^ h.reports.length ∧ Keeps (fun _ => False) m x.2) (fun x => 2 ^ h.reports.length - x.1) (0,m) (fun _ => rfl) ?_ ?_ ?_
 ·exact ⟨by simp,Keeps.refl _ _⟩
 ·(simp only [FE,↓FP,seval])
  simp [bestTo]
 rintro ⟨k,mk⟩ ⟨hk,hkm⟩
 simp only at hk hkm
 have hsu := bestTo_succ h k
 cases hB : bestTo h k with
 | none =>
  rw [hB] at hsu
  simp only [Option.getD_none,Option.isSome_none,List.map_nil]
  simp(maxSteps:=9^9)only[↓VX,VQ,seval]
  repeat'(first|intro _|apply And.intro)
  all_goals try omega
  ·refine ACall.pure (hlist k (by omega)) ?_
   simp(maxSteps:=9^9)only[↓VX,VQ,seval]
   repeat'(first|intro _|apply And.intro)
   refine ACall.told (hlook k mk) ?_
   rintro r m1 ⟨bm,hbm,rfl,rfl⟩
   simp(maxSteps:=9^9)only[↓VX,VQ,seval]
   repeat'(first|intro _|apply And.intro)
   refine ACall.told (hsome k (by omega) bm _ ⟨[],by simp,upd_same _ _ _⟩) ?_
   rintro r m2 ⟨rfl,hk2,hkk⟩
   have hke : Keeps (fun _ => False) m m2 := by
    refine ⟨fun j x _ hx => ?_⟩
    have hx1 := hkm j x (fun h => h) hx
    have hne := ne_of_some hx1 hbm
    exact hkk j x hne (by rw [upd_ne _ _ hne]; exact hx1)
   simp(maxSteps:=9^9)only[↓VX,VQ,seval]
   repeat'(first|intro _|apply And.intro)
   all_goals try omega
   ·rw [if_pos (by assumption)] at hsu
    refine ⟨(k + 1,m2),⟨by dsimp only; omega,hke⟩,by dsimp only; omega,?_⟩
    (simp only [FE,↓FP,seval])
    rw [hsu]
    exact ⟨rfl,rfl,rfl⟩
   ·rw [if_neg (by assumption)] at hsu
    refine ⟨(k + 1,m2),⟨by dsimp only; omega,hke⟩,by dsimp only; omega,?_⟩
    (simp only [FE,↓FP,seval])
    rw [hsu]
    exact ⟨rfl,rfl,rfl⟩
  ·rw [show k = 2 ^ h.reports.length by omega] at hB
   rw [hB] at hW
   rw [hW]
   exact ⟨m,fun b x hx => hkm b x (fun h => h) hx,rfl,rfl⟩
 | some b0 =>
  rw [hB] at hsu
  simp only [Option.getD_some,Option.isSome_some]
  have hcm := hcmp (listTo k h.reports.length) b0
  have hordB : ordB (listTo k h.reports.length) b0 = (decide (b0.length < (listTo k h.reports.length).length) || (decide ((listTo k h.reports.length).length = b0.length) && decide (0 < lexC (listTo k h.reports.length) b0))) := rfl
  have hlk := hlist k
  have hlen := hlen k
  simp only at hsu
  generalize hT : listTo k h.reports.length = T at *
  simp(maxSteps:=9^9)only[↓VX,VQ,seval]
  repeat'(first|intro _|apply And.intro)
  all_goals try omega
  ·refine ACall.pure (hlk (by omega)) ?_
   simp(maxSteps:=9^9)only[↓VX,VQ,seval]
   repeat'(first|intro _|apply And.intro)
   all_goals try omega
   ·have el : T.length = b0.length := by omega
    refine ACall.pure hcm ?_
    simp(maxSteps:=9^9)only[↓VX,VQ,seval]
    repeat'(first|intro _|apply And.intro)
    all_goals try omega
    ·have hyes : ordB T b0 = true := by rw [hordB,decide_eq_true el,decide_eq_true (show 0 < lexC T b0 by assumption)]; simp
     rw [hyes,if_pos rfl] at hsu
     refine ⟨(k + 1,mk),⟨by dsimp only; omega,hkm⟩,by dsimp only; omega,?_⟩
     (simp only [FE,↓FP,seval])
     rw [hsu]
     exact ⟨rfl,rfl,rfl⟩
    ·have hno : ordB T b0 = false := by rw [hordB,decide_eq_false (show ¬ b0.length < T.length by omega),decide_eq_false (show ¬ 0 < lexC T b0 by assumption)]; simp
     rw [hno,if_neg (by decide)] at hsu
     refine ACall.told (hlook k mk) ?_
     rintro r m1 ⟨bm,hbm,rfl,rfl⟩
     simp(maxSteps:=9^9)only[↓VX,VQ,seval]
     repeat'(first|intro _|apply And.intro)
     refine ACall.told (hsome k (by omega) bm _ ⟨[],by simp,upd_same _ _ _⟩) ?_
     rintro r m2 ⟨rfl,hk2,hkk⟩
     have hke : Keeps (fun _ => False) m m2 := by
      refine ⟨fun j x _ hx => ?_⟩
      have hx1 := hkm j x (fun h => h) hx
      have hne := ne_of_some hx1 hbm
      exact hkk j x hne (by rw [upd_ne _ _ hne]; exact hx1)
     simp(maxSteps:=9^9)only[↓VX,VQ,seval]
     repeat'(first|intro _|apply And.intro)
     all_goals try omega
     ·rw [if_pos (by assumption)] at hsu
      refine ⟨(k + 1,m2),⟨by dsimp only; omega,hke⟩,by dsimp only; omega,?_⟩
      (simp only [FE,↓FP,seval])
      rw [hsu]
      exact ⟨rfl,rfl,rfl⟩
     ·rw [if_neg (by assumption)] at hsu
      refine ⟨(k + 1,m2),⟨by dsimp only; omega,hke⟩,by dsimp only; omega,?_⟩
      (simp only [FE,↓FP,seval])
      rw [hsu]
      exact ⟨rfl,rfl,rfl⟩
   ·have hno : ordB T b0 = false := by rw [hordB,decide_eq_false (show ¬ b0.length < T.length by omega),decide_eq_false (show ¬ T.length = b0.length by omega)]; rfl
    rw [hno,if_neg (by decide)] at hsu
    refine ACall.told (hlook k mk) ?_
    rintro r m1 ⟨bm,hbm,rfl,rfl⟩
    simp(maxSteps:=9^9)only[↓VX,VQ,seval]
    repeat'(first|intro _|apply And.intro)
    refine ACall.told (hsome k (by omega) bm _ ⟨[],by simp,upd_same _ _ _⟩) ?_
    rintro r m2 ⟨rfl,hk2,hkk⟩
    have hke : Keeps (fun _ => False) m m2 := by
     refine ⟨fun j x _ hx => ?_⟩
     have hx1 := hkm j x (fun h => h) hx
     have hne := ne_of_some hx1 hbm
     exact hkk j x hne (by rw [upd_ne _ _ hne]; exact hx1)
    simp(maxSteps:=9^9)only[↓VX,VQ,seval]
    repeat'(first|intro _|apply And.intro)
    all_goals try omega
    ·rw [if_pos (by assumption)] at hsu
     refine ⟨(k + 1,m2),⟨by dsimp only; omega,hke⟩,by dsimp only; omega,?_⟩
     (simp only [FE,↓FP,seval])
     rw [hsu]
     exact ⟨rfl,rfl,rfl⟩
    ·rw [if_neg (by assumption)] at hsu
     refine ⟨(k + 1,m2),⟨by dsimp only; omega,hke⟩,by dsimp only; omega,?_⟩
     (simp only [FE,↓FP,seval])
     rw [hsu]
     exact ⟨rfl,rfl,rfl⟩
   ·have hyes : ordB T b0 = true := by rw [hordB,decide_eq_true (show b0.length < T.length by omega)]; rfl
    rw [hyes,if_pos rfl] at hsu
    refine ⟨(k + 1,mk),⟨by dsimp only; omega,hkm⟩,by dsimp only; omega,?_⟩
    (simp only [FE,↓FP,seval])
    rw [hsu]
    exact ⟨rfl,rfl,rfl⟩
  ·rw [show k = 2 ^ h.reports.length by omega] at hB
   rw [hB] at hW
   rw [hW]
   exact ⟨m,fun b x hx => hkm b x (fun h => h) hx,rfl,rfl⟩
theorem ships_drop {l : List RShip} {k : Nat} (hk : k < l.length) : ((l.map shipA).map AV.cells).flatten.drop (k * 5) = [.str (l[k]!).name,.int .i64 (l[k]!).sails,.slice 2 ((l[k]!).calls.map callA),.int .i64 (l[k]!).lo,.int .i64 (l[k]!).hi] ++ ((l.map shipA).map AV.cells).flatten.drop (k * 5 + 5) := by
 induction l generalizing k with
 | nil => simp at hk
 | cons x l ih =>
  have hx : (shipA x).cells = [.str x.name,.int .i64 x.sails,.slice 2 (x.calls.map callA),.int .i64 x.lo,.int .i64 x.hi] := rfl
  cases k with
  | zero => simp [hx]
  | succ k =>
   have := ih (k := k) (by simpa using hk)
   rw [List.map_cons,List.map_cons,List.flatten_cons,hx,show (k + 1) * 5 = 5 + k * 5 by omega,show 5 + k * 5 + 5 = 5 + (k * 5 + 5) by omega,← List.drop_drop,← List.drop_drop]
   simpa using this
theorem ships_cells (l : List RShip) : ((l.map shipA).map AV.cells).flatten.length = l.length * 5 := by
 induction l with
 | nil => rfl
 | cons x l ih =>
  rw [List.map_cons,List.map_cons,List.flatten_cons,List.length_append,ih]
  simp [shipA,shipL,AV.cells]; omega
theorem sendE_known {h : RHarb} {port day : Int} : (knownR h (dayE day (indexE (checkH h).2.2 port h.ports))).2 = enterE h h.ports (datedE day) [port] := by
 refine known_enter (fun q => ?_) (fun q => ?_)
 ·rw [indexE_bad q,dayE_bad q]
 ·rw [q,indexE_good]
  simp only [List.any_cons,List.any_nil,Bool.or_false]
  by_cases q1 : offP 0 (h.ports - 1) port = true
  ·simp only [if_pos q1]; exact dayE_bad (by decide)
  ·simp only [if_neg q1]; unfold dayE datedE; rw [if_pos rfl]
theorem sendR_bad {h : RHarb} {port day : Int} (e : enterE h h.ports (datedE day) [port] ≠ 0) : sendR h port day = (0,0,enterE h h.ports (datedE day) [port]) := by
 rw [← sendE_known] at e ⊢
 unfold sendR
 rw [if_neg e]
theorem sendR_good {h : RHarb} {port day : Int} (e : enterE h h.ports (datedE day) [port] = 0) : sendR h port day = if (sendTo h (truthsR h []) port day h.ships.length).1 < 0 then (0,0,9) else ((sendTo h (truthsR h []) port day h.ships.length).1,(sendTo h (truthsR h []) port day h.ships.length).2,0) := by
 rw [← sendE_known] at e
 obtain ⟨k1,k2,k3⟩ := known_zero e
 unfold sendR
 rw [if_pos e,k2]
theorem send_top (h : RHarb) (hs : hnamesFit h) (port day : Int) : PCall Tryz.prog 23 [harbA h,.int .i64 port,.int .i64 day] (.tuple [.int .i64 (sendR h port day).1,.int .i64 (sendR h port day).2.1,.int .i64 (sendR h port day).2.2]) := by
 intro m
 refine ACall.forget ?_
 have hen := fun other m => enter_c h hs h.ports other [port] (fun q => by have := (hok_check q).p; omega) m
 have hbad := sendR_bad (h := h) (port := port) (day := day)
 have hgood := sendR_good (h := h) (port := port) (day := day)
 have hdat := dated_c day
 generalize sendR h port day = R at *
 generalize datedE day = W at *
 simp only [harbA,harbL,ints,List.map_nil,List.map_cons] at hen ⊢
 (refine acall_intro (E := envC (modeAt [12,13,14,32] []) false []) (envCOk _ _ _) rfl Tryz.func23 rfl Tryz.call23 (by kernel_rfl) (by simp [Tryz.ntmps23]) ?_; simp only [Tryz.f23];  simp(maxSteps:=9^9)only[↓VX,VQ,seval])
 (refine adraw (by first | exact envOk _ | exact envCOk _ _ _) mixed [⟨true,false,0⟩,⟨true,false,0⟩,⟨true,false,0⟩,⟨true,false,0⟩,⟨true,false,0⟩,⟨true,false,0⟩,⟨true,false,0⟩,⟨false,false,2⟩,⟨true,false,0⟩,⟨true,false,0⟩,⟨true,false,0⟩,⟨true,false,0⟩,⟨true,false,0⟩] (by kernel_rfl) ?_; show vcOpsD _ _ _ (_ :: _) _ _)
 simp(maxSteps:=9^9)only[↓VX,VQ,seval]
 repeat'(first|intro _|apply And.intro)
 refine VPure.of hdat ?_
 simp(maxSteps:=9^9)only[↓VX,VQ,seval]
 repeat'(first|intro _|apply And.intro)
 refine ACall.told (hen _ _) ?_
 rintro r m1 ⟨kk,⟨hz,rfl⟩ | ⟨hz,bm,hbm,rfl,hkn⟩⟩
 ·have hb := hbad hz
  generalize enterE h h.ports W [port] = e at *
  subst hb
  simp(maxSteps:=9^9)only[↓VX,VQ,seval,hz]
  exact ⟨m,fun b x hx => kk b x (fun h => h) hx,rfl⟩
 ·obtain ⟨z1,z2,z3,z4⟩ := enter_zero hz
  have hh := hok_check z1
  have h3 := hh.n
  have hR := hgood hz
  clear hen hbad hgood
  have hrep : (List.replicate h.ships.length [AV.str ByteArray.empty,AV.int IntKind.i64 0,AV.slice 2 [],AV.int IntKind.i64 0,AV.int IntKind.i64 0]).flatten.length = h.ships.length * 5 := by simp
  have hrd : (List.replicate h.ships.length [AV.str ByteArray.empty,AV.int IntKind.i64 0,AV.slice 2 [],AV.int IntKind.i64 0,AV.int IntKind.i64 0]).flatten.drop (h.ships.length * 5) = [] := List.drop_eq_nil_of_le (by rw [hrep]; exact Nat.le_refl _)
  have hcl := ships_cells h.ships
  have hcf := fun (s : Nat) (q : s < h.ships.length) (m : Mem) (hk : Known h 0 bm m) => callsF_c h hh 0 (by decide) bm s port q m hk
  have htk := fun (s : Nat) => takes_c (h.ships[s]!) port day
  simp only [lookedL,Int.natCast_zero,shipA,shipL] at hcf htk ⊢
  simp(maxSteps:=9^9)only[↓VX,VQ,seval]
  repeat'(first|intro _|apply And.intro)
  all_goals try omega
  refine aloop (envCOk _ _ _) (fun x : Nat × Mem => ⟨[(1,.v (.int .i64 port)),(2,.v (.int .i64 day)),(3,.v (.eptr [.int .i64 h.ports,.int .i64 h.lost,.slice 5 (h.ships.map shipA),.slice 3 (h.letters.map letA),.slice 4 (h.reports.map repA)])),(6,.v (.int .i64 (sendTo h (truthsR h []) port day x.1).1)),(7,.v (.int .i64 (if (sendTo h (truthsR h []) port day x.1).1 < 0 then 61 else (sendTo h (truthsR h []) port day x.1).2))),(9,.v (.eptr (lookedL h 0 bm))),(37,.lslice 32 0 h.ships.length h.ships.length),(38,.v (.int .i64 h.ships.length)),(39,.v (.int .i64 x.1))],[],
    [(32,((h.ships.map shipA).map AV.cells).flatten)],x.2⟩)
   (fun x => x.1 ≤ h.ships.length ∧ Known h 0 bm x.2 ∧ Keeps (fun _ => False) m x.2) (fun x => h.ships.length - x.1) (0,m1) (fun _ => rfl) ?_ ?_ ?_
  ·exact ⟨by simp,hkn,kk⟩
  ·(simp only [FE,↓FP,seval])
   rw [hcl,hrd]
   simp [lookedL,sendTo]
  rintro ⟨k,mk⟩ ⟨hk,hknk,hkk⟩
  simp only at hk hknk hkk
  have hb := sendTo_le h (truthsR h []) port day k
  have hsu : sendTo h (truthsR h []) port day (k + 1) = if sendOk h (truthsR h []) port day (sendTo h (truthsR h []) port day k) k = true then ((k : Int),(calledTo h (truthsR h []) k port (truthsR h []).length).1.2) else sendTo h (truthsR h []) port day k := rfl
  have hok : sendOk h (truthsR h []) port day (sendTo h (truthsR h []) port day k) k = (takesB (h.ships[k]!) port day && (decide ((calledTo h (truthsR h []) k port (truthsR h []).length).2 = ((truthsR h []).length : Int)) && (decide ((sendTo h (truthsR h []) port day k).1 < 0) || decide ((calledTo h (truthsR h []) k port (truthsR h []).length).1.2 < (sendTo h (truthsR h []) port day k).2)))) := rfl
  have hlast : k = h.ships.length → R = if (sendTo h (truthsR h []) port day k).1 < 0 then (0,0,9) else ((sendTo h (truthsR h []) port day k).1,(sendTo h (truthsR h []) port day k).2,0) := fun e => by rw [e]; exact hR
  generalize sendTo h (truthsR h []) port day k = B at *
  simp only [lookedL]
  by_cases hkl : k < h.ships.length
  ·have hdr := ships_drop hkl
   have hck := hcf k hkl mk hknk
   have hslen : (sendOk h (truthsR h []) port day B k) = (sendOk h (truthsR h []) port day B k) := rfl
   have htk := htk k
   generalize takesB (h.ships[k]!) port day = T at *
   simp(maxSteps:=9^9)only[↓VX,VQ,seval,hdr]
   repeat'(first|intro _|apply And.intro)
   all_goals try omega
   refine ACall.told hck ?_
   rintro r m2 ⟨k1,k2,L,g,rfl⟩
   obtain ⟨c1,c2,c3,c4,c5⟩ := calls_same hh (given_same hh g) hkl port
   have hke : Keeps (fun _ => False) m m2 := ⟨fun b x _ hx => k2 b x (ne_of_some hx hbm) (hkk b x (fun h => h) hx)⟩
   have hpos : 0 < (L.length : Int) := by
    have h1 : anyT h 0 = true := z4
    unfold anyT at h1
    rw [List.any_eq_true] at h1
    obtain ⟨x,hx,ho⟩ := h1
    have := g.c x hx ho
    rw [List.nil_append] at this
    have := List.length_pos_of_mem this
    omega
   have hhi : yesC (fun x => decide (dA h k port x < 61)) L ≠ 0 → hiC h k port L = (calledTo h (truthsR h []) k port (truthsR h []).length).1.2 ∧ hiC h k port L < 61 := fun q => by
    have := c4 q
    have e := congrArg Prod.snd this
    simp only at e
    refine ⟨e,?_⟩
    obtain ⟨m1,m2,m3⟩ := hi_fold (dA h k port) L 0
    change hiC h k port L = 0 ∨ ∃ x ∈ L,dA h k port x < 61 ∧ hiC h k port L = dA h k port x at m3
    rcases m3 with m3 | ⟨z,_,hz1,hz2⟩ <;> omega
   generalize hcalled : calledTo h (truthsR h []) k port (truthsR h []).length = CA at *
   generalize hiC h k port L = hi at *
   generalize yesC (fun x => decide (dA h k port x < 61)) L = yes at *
   generalize loC h k port L = lo at *
   simp(maxSteps:=9^9)only[↓VX,VQ,seval]
   repeat'(first|intro _|apply And.intro)
   all_goals try omega
   refine ACall.pure htk ?_
   simp(maxSteps:=9^9)only[↓VX,VQ,seval]
   repeat'(first|intro _|apply And.intro)
   all_goals try omega
   ·have ya : yes = (L.length : Int) := by assumption
    obtain ⟨h1,h2⟩ := hhi (by omega)
    have q : hi < if B.1 < 0 then 61 else B.2 := by assumption
    have hyes : sendOk h (truthsR h []) port day B k = true := by
     rw [hok,show T = true by assumption,decide_eq_true (c3.1 ya),← h1]
     by_cases q2 : B.1 < 0
     ·rw [decide_eq_true q2]; rfl
     ·rw [if_neg q2] at q; rw [decide_eq_true q]; simp
    rw [hyes,if_pos rfl] at hsu
    (refine adraw (by first | exact envOk _ | exact envCOk _ _ _) mixed [⟨false,false,0⟩,⟨false,false,0⟩,⟨false,false,0⟩,⟨false,false,0⟩,⟨false,false,0⟩] (by kernel_rfl) ?_; show vcOpsD _ _ _ (_ :: _) _ _)
    simp(maxSteps:=9^9)only[↓VX,VQ,seval]
    repeat'(first|intro _|apply And.intro)
    all_goals try omega
    refine ⟨(k + 1,m2),⟨by dsimp only; omega,k1,hke⟩,by dsimp only; omega,?_⟩
    (simp only [FE,↓FP,seval])
    rw [hsu,h1]
    simp
    try omega
   ·have ya : yes = (L.length : Int) := by assumption
    obtain ⟨h1,h2⟩ := hhi (by omega)
    have q : ¬ hi < if B.1 < 0 then 61 else B.2 := by assumption
    have hno : sendOk h (truthsR h []) port day B k = false := by
     rw [hok,← h1]
     by_cases q2 : B.1 < 0
     ·rw [if_pos q2] at q; exact absurd h2 q
     ·rw [if_neg q2] at q; rw [decide_eq_false q2,decide_eq_false q]; simp
    rw [hno,if_neg (by decide)] at hsu
    refine ⟨(k + 1,m2),⟨by dsimp only; omega,k1,hke⟩,by dsimp only; omega,?_⟩
    (simp only [FE,↓FP,seval])
    rw [hsu]
    simp
   ·have hno : sendOk h (truthsR h []) port day B k = false := by
     rw [hok,decide_eq_false (fun e => (show ¬ yes = (L.length : Int) by assumption) (c3.2 e))]; simp
    rw [hno,if_neg (by decide)] at hsu
    refine ⟨(k + 1,m2),⟨by dsimp only; omega,k1,hke⟩,by dsimp only; omega,?_⟩
    (simp only [FE,↓FP,seval])
    rw [hsu]
    simp
   ·have hno : sendOk h (truthsR h []) port day B k = false := by
     rw [hok,show T = false by (first | assumption | (rw [← Bool.not_eq_false]; assumption) | (rw [← Bool.not_eq_true]; assumption) | omega)]; simp
    rw [hno,if_neg (by decide)] at hsu
    refine ⟨(k + 1,m2),⟨by dsimp only; omega,k1,hke⟩,by dsimp only; omega,?_⟩
    (simp only [FE,↓FP,seval])
    rw [hsu]
    simp
  ·simp(maxSteps:=9^9)only[↓VX,VQ,seval]
   repeat'(first|intro _|apply And.intro)
   all_goals try omega
   ·have hR := hlast (by omega)
    have q : B.1 = -1 := by assumption
    rw [if_pos (by omega)] at hR
    rw [hR]
    exact ⟨m,fun b x hx => hkk b x (fun h => h) hx,rfl,rfl⟩
   ·have hR := hlast (by omega)
    have q : ¬ B.1 = -1 := by assumption
    rw [if_neg (by omega)] at hR
    rw [hR,if_neg (by omega)]
    exact ⟨m,fun b x hx => hkk b x (fun h => h) hx,rfl,rfl⟩
theorem eqFlatSpan4 (a b a' b' : Int) : EqFlat Tryz.prog 43 [.int .i64 a,.int .i64 b] [.int .i64 a',.int .i64 b'] (decide (a = a') && (decide (b = b') && true)) := by
 intro vs vs' com w x y h h'
 obtain ⟨v1,vs,rfl,r1,h⟩ := Reps.cons_inv h
 obtain ⟨v2,vs,rfl,r2,h⟩ := Reps.cons_inv h
 obtain rfl := Reps.nil_inv h
 obtain ⟨u1,us,rfl,s1,h'⟩ := Reps.cons_inv h'
 obtain ⟨u2,us,rfl,s2,h'⟩ := Reps.cons_inv h'
 obtain rfl := Reps.nil_inv h'
 obtain rfl := rep_int r1; obtain rfl := rep_int r2
 obtain rfl := rep_int s1; obtain rfl := rep_int s2
 have hg : Tryz.prog.eqGuardType Tryz.prog.depth 43 = false := by kernel_rfl
 have hu : Tryz.prog.underlying 43 = some (.struct (Tryz.prog.fieldsOf 43)) := by kernel_rfl
 have hs : Tryz.prog.stoodInHeld 43 = false := by kernel_rfl
 have key : (Op.equalIn 10000 43 (.agg #[.int .i64 a,.int .i64 b]) (.agg #[.int .i64 a',.int .i64 b'])).run Tryz.prog w =
   .ok (decide (a = a') && (decide (b = b') && true)) w := by
  rw [run_equalIn_agg w 9999 43 _ _ hu hs]
  simp only [Program.fieldsOf,Tryz.underlying43]
  exact eqStep (by decide) rfl rfl rfl (eqStep (by decide) rfl rfl rfl (by simp [Op.eqFields]))
 constructor
 ·rw [Sem.run_bind,run_eqGuard_agg w .eql 43 x y _ _ hg,Result.andThen_ok,run_eql_struct,key]; rfl
 ·rw [Sem.run_bind,run_eqGuard_agg w .neq 43 x y _ _ hg,Result.andThen_ok,run_neq_struct,key]; rfl
def exH (lost : Int) (more : Nat) : RHarb := ⟨2,lost,[⟨⟨#[97,108,98,97]⟩,1,[⟨0,3⟩,⟨1,6⟩],0,2⟩,⟨⟨#[98,114,105,115,97]⟩,3,[⟨1,3⟩],0,1⟩],[⟨1,0,-1⟩,⟨1,2,-1⟩],
 ⟨0,0,0,5⟩ :: (if more = 1 then [⟨0,1,1,9⟩] else if more = 2 then [⟨3,0,0,8⟩,⟨2,1,0,6⟩] else [])⟩
theorem ex_names (lost : Int) (more : Nat) : hnamesFit (exH lost more) := by
 intro s hs
 simp only [exH,List.mem_cons,List.not_mem_nil,or_false] at hs
 rcases hs with rfl | rfl <;> decide
theorem span_c (a b : Int) : PCall Tryz.prog 24 [.int .i64 a,.int .i64 b] (.agg [.int .i64 a,.int .i64 b]) := by
 intro m
 (refine acall_intro (E := envC (modeAt [4] []) false []) (envCOk _ _ _) rfl Tryz.func24 rfl Tryz.call24 (by kernel_rfl) (by simp [Tryz.ntmps24]) ?_; simp only [Tryz.f24];  simp(maxSteps:=9^9)only[↓VX,VQ,seval])
 unfold vcSome
 simp only [buildFrom,placeOf]
 simp(maxSteps:=9^9)only[↓VX,VQ,seval]
theorem harbour0_c (lost : Int) : PCall Tryz.prog 17 [.int .i64 lost,.int .i64 0] (harbA (exH lost 0)) := by
 intro m
 have h1 := span_c 0 2
 have h2 := span_c 0 1
 simp only [harbA,harbL,exH,List.map_cons,List.map_nil,shipA,shipL,callA,letA,repA,if_true,if_false,Nat.reduceEqDiff,reduceCtorEq]
 (refine acall_intro (E := envC (modeAt [4,5] []) false []) (envCOk _ _ _) rfl Tryz.func17 rfl Tryz.call17 (by kernel_rfl) (by simp [Tryz.ntmps17]) ?_; simp only [Tryz.f17];  simp(maxSteps:=9^9)only[↓VX,VQ,seval,buildV,Int.reduceEq])
 (refine ACall.pure (h1) ?_; try simp(maxSteps:=9^9)only[↓VX,VQ,seval,GL,buildV,Int.reduceEq])
 (refine ACall.pure (h2) ?_; try simp(maxSteps:=9^9)only[↓VX,VQ,seval,GL,buildV,Int.reduceEq])
 try rfl
theorem harbour1_c (lost : Int) : PCall Tryz.prog 17 [.int .i64 lost,.int .i64 1] (harbA (exH lost 1)) := by
 intro m
 refine ACall.forget ?_
 have h1 := span_c 0 2
 have h2 := span_c 0 1
 simp only [harbA,harbL,exH,List.map_cons,List.map_nil,shipA,shipL,callA,letA,repA,if_true,if_false,Nat.reduceEqDiff,reduceCtorEq]
 (refine acall_intro (E := envC (modeAt [4,5] []) false [1,3]) (envCOk _ _ _) rfl Tryz.func17 rfl Tryz.call17 (by kernel_rfl) (by simp [Tryz.ntmps17]) ?_; simp only [Tryz.f17];  simp(maxSteps:=9^9)only[↓VX,VQ,seval,buildV,Int.reduceEq])
 refine acut_at_k 15 (envCOk _ _ _) (V := vcBuildM _) (fun h hd _ _ _ hi hf hs _ _ _ hn => vcBuildM_sound (envCOk _ _ _) h hd hi hf hs hn) rfl rfl (fun b : Nat => ⟨[(0,.v (.int .i64 lost)),(1,.v (.int .i64 1)),(4,.loc 4 0),(5,.loc 5 0)],[],[(4,[.int .i64 0,.int .i64 0,.slice 5 [],.slice 3 [],.slice 4 []]),(5,[.int .i64 2,.int .i64 lost,.slice 5 [.agg [.str ⟨#[97,108,98,97]⟩,.int .i64 1,.slice 2 [.agg [.int .i64 0,.int .i64 3],.agg [.int .i64 1,.int .i64 6]],.int .i64 0,.int .i64 2],.agg [.str ⟨#[98,114,105,115,97]⟩,.int .i64 3,.slice 2 [.agg [.int .i64 1,.int .i64 3]],.int .i64 0,.int .i64 1]],.slice 3 [.agg [.int .i64 1,.int .i64 0,.int .i64 (-1)],.agg [.int .i64 1,.int .i64 2,.int .i64 (-1)]],.mslice b 0 1 1])],upd m b (some (.cells [.int .i64 0,.int .i64 0,.int .i64 0,.int .i64 5]))⟩) (fun b => m b = none) (fun _ => rfl) ?_ ?_
 ·show vcOps _ _ (_ :: _) _ _
  simp(maxSteps:=9^9)only[↓VX,VQ,seval,buildV,Int.reduceEq]
  (refine ACall.pure (h1) ?_; try simp(maxSteps:=9^9)only[↓VX,VQ,seval,GL,buildV,Int.reduceEq])
  (refine ACall.pure (h2) ?_; try simp(maxSteps:=9^9)only[↓VX,VQ,seval,GL,buildV,Int.reduceEq,vcBuildM])
  intro b hb
  refine ⟨b,hb,?_⟩
  (simp only [FE,↓FP,seval])
  try simp
 ·intro b hb
  simp(maxSteps:=9^9)only[↓VX,VQ,seval,buildV,Int.reduceEq]
  refine acut_at_k 4 (envCOk _ _ _) (V := vcAppM _) (fun h hd _ _ _ hi hf hs _ _ _ hn => vcAppM_sound (envCOk _ _ _) h hd hi hf hs hn) rfl rfl (fun _ : Nat => ⟨[(0,.v (.int .i64 lost)),(1,.v (.int .i64 1)),(4,.loc 4 0),(5,.loc 5 0)],[],[(4,[.int .i64 0,.int .i64 0,.slice 5 [],.slice 3 [],.slice 4 []]),(5,[.int .i64 2,.int .i64 lost,.slice 5 [.agg [.str ⟨#[97,108,98,97]⟩,.int .i64 1,.slice 2 [.agg [.int .i64 0,.int .i64 3],.agg [.int .i64 1,.int .i64 6]],.int .i64 0,.int .i64 2],.agg [.str ⟨#[98,114,105,115,97]⟩,.int .i64 3,.slice 2 [.agg [.int .i64 1,.int .i64 3]],.int .i64 0,.int .i64 1]],.slice 3 [.agg [.int .i64 1,.int .i64 0,.int .i64 (-1)],.agg [.int .i64 1,.int .i64 2,.int .i64 (-1)]],.slice 4 [.agg [.int .i64 0,.int .i64 0,.int .i64 0,.int .i64 5],.agg [.int .i64 0,.int .i64 1,.int .i64 1,.int .i64 9]]])],upd m b (some (.cells [.int .i64 0,.int .i64 0,.int .i64 0,.int .i64 5]))⟩) (fun _ => True) (fun _ => rfl) ?_ ?_
  ·show vcOps _ _ (_ :: _) _ _
   simp(maxSteps:=9^9)only[↓VX,VQ,seval,buildV,Int.reduceEq,vcAppM]
   refine ⟨[.agg [.int .i64 0,.int .i64 0,.int .i64 0,.int .i64 5]],?_,?_⟩
   ·simp [AV.cells,flat]
   ·refine ⟨0,?_⟩
    (simp only [FE,↓FP,seval])
    try simp
  ·intro _ _
   simp(maxSteps:=9^9)only[↓VX,VQ,seval,buildV,Int.reduceEq]
   exact ⟨m,fun k x hx => by rw [if_neg (by rintro rfl; rw [hb] at hx; cases hx)]; exact hx,rfl⟩
theorem harbour2_c (lost : Int) : PCall Tryz.prog 17 [.int .i64 lost,.int .i64 2] (harbA (exH lost 2)) := by
 intro m
 refine ACall.forget ?_
 have h1 := span_c 0 2
 have h2 := span_c 0 1
 simp only [harbA,harbL,exH,List.map_cons,List.map_nil,shipA,shipL,callA,letA,repA,if_true,if_false,Nat.reduceEqDiff,reduceCtorEq]
 (refine acall_intro (E := envC (modeAt [4,5] []) false [1,5]) (envCOk _ _ _) rfl Tryz.func17 rfl Tryz.call17 (by kernel_rfl) (by simp [Tryz.ntmps17]) ?_; simp only [Tryz.f17];  simp(maxSteps:=9^9)only[↓VX,VQ,seval,buildV,Int.reduceEq])
 refine acut_at_k 15 (envCOk _ _ _) (V := vcBuildM _) (fun h hd _ _ _ hi hf hs _ _ _ hn => vcBuildM_sound (envCOk _ _ _) h hd hi hf hs hn) rfl rfl (fun b : Nat => ⟨[(0,.v (.int .i64 lost)),(1,.v (.int .i64 2)),(4,.loc 4 0),(5,.loc 5 0)],[],[(4,[.int .i64 0,.int .i64 0,.slice 5 [],.slice 3 [],.slice 4 []]),(5,[.int .i64 2,.int .i64 lost,.slice 5 [.agg [.str ⟨#[97,108,98,97]⟩,.int .i64 1,.slice 2 [.agg [.int .i64 0,.int .i64 3],.agg [.int .i64 1,.int .i64 6]],.int .i64 0,.int .i64 2],.agg [.str ⟨#[98,114,105,115,97]⟩,.int .i64 3,.slice 2 [.agg [.int .i64 1,.int .i64 3]],.int .i64 0,.int .i64 1]],.slice 3 [.agg [.int .i64 1,.int .i64 0,.int .i64 (-1)],.agg [.int .i64 1,.int .i64 2,.int .i64 (-1)]],.mslice b 0 1 1])],upd m b (some (.cells [.int .i64 0,.int .i64 0,.int .i64 0,.int .i64 5]))⟩) (fun b => m b = none) (fun _ => rfl) ?_ ?_
 ·show vcOps _ _ (_ :: _) _ _
  simp(maxSteps:=9^9)only[↓VX,VQ,seval,buildV,Int.reduceEq]
  (refine ACall.pure (h1) ?_; try simp(maxSteps:=9^9)only[↓VX,VQ,seval,GL,buildV,Int.reduceEq])
  (refine ACall.pure (h2) ?_; try simp(maxSteps:=9^9)only[↓VX,VQ,seval,GL,buildV,Int.reduceEq,vcBuildM])
  intro b hb
  refine ⟨b,hb,?_⟩
  (simp only [FE,↓FP,seval])
  try simp
 ·intro b hb
  simp(maxSteps:=9^9)only[↓VX,VQ,seval,buildV,Int.reduceEq]
  refine acut_at_k 5 (envCOk _ _ _) (V := vcAppM _) (fun h hd _ _ _ hi hf hs _ _ _ hn => vcAppM_sound (envCOk _ _ _) h hd hi hf hs hn) rfl rfl (fun _ : Nat => ⟨[(0,.v (.int .i64 lost)),(1,.v (.int .i64 2)),(4,.loc 4 0),(5,.loc 5 0)],[],[(4,[.int .i64 0,.int .i64 0,.slice 5 [],.slice 3 [],.slice 4 []]),(5,[.int .i64 2,.int .i64 lost,.slice 5 [.agg [.str ⟨#[97,108,98,97]⟩,.int .i64 1,.slice 2 [.agg [.int .i64 0,.int .i64 3],.agg [.int .i64 1,.int .i64 6]],.int .i64 0,.int .i64 2],.agg [.str ⟨#[98,114,105,115,97]⟩,.int .i64 3,.slice 2 [.agg [.int .i64 1,.int .i64 3]],.int .i64 0,.int .i64 1]],.slice 3 [.agg [.int .i64 1,.int .i64 0,.int .i64 (-1)],.agg [.int .i64 1,.int .i64 2,.int .i64 (-1)]],.slice 4 [.agg [.int .i64 0,.int .i64 0,.int .i64 0,.int .i64 5],.agg [.int .i64 3,.int .i64 0,.int .i64 0,.int .i64 8],.agg [.int .i64 2,.int .i64 1,.int .i64 0,.int .i64 6]]])],upd m b (some (.cells [.int .i64 0,.int .i64 0,.int .i64 0,.int .i64 5]))⟩) (fun _ => True) (fun _ => rfl) ?_ ?_
  ·show vcOps _ _ (_ :: _) _ _
   simp(maxSteps:=9^9)only[↓VX,VQ,seval,buildV,Int.reduceEq,vcAppM]
   refine ⟨[.agg [.int .i64 0,.int .i64 0,.int .i64 0,.int .i64 5]],?_,?_⟩
   ·simp [AV.cells,flat]
   ·refine ⟨0,?_⟩
    (simp only [FE,↓FP,seval])
    try simp
  ·intro _ _
   simp(maxSteps:=9^9)only[↓VX,VQ,seval,buildV,Int.reduceEq]
   exact ⟨m,fun k x hx => by rw [if_neg (by rintro rfl; rw [hb] at hx; cases hx)]; exact hx,rfl⟩
theorem x1 : callsR (exH 1 0) 0 1 = ((8,8),0,0) := by kernel_rfl
theorem x2 : callsR (exH 1 0) 0 0 = ((5,5),1,0) := by kernel_rfl
theorem x3 : callsR (exH 1 0) 1 0 = ((0,0),2,0) := by kernel_rfl
theorem x4 : sunkR (exH 1 2) = ([0],[0],0) := by kernel_rfl
theorem x5 : comeR (exH 0 0) 1 7 = (1,0) := by kernel_rfl
theorem x6 : comeR (exH 1 0) 0 5 = (2,0) := by kernel_rfl
theorem x7 : byR (exH 1 2) 0 = ([0],0) := by kernel_rfl
theorem x8 : beforeR (exH 1 2) 1 0 = (1,0) := by kernel_rfl
theorem x9 : wrongR (exH 1 1) = ([1],0) := by kernel_rfl
theorem x10 : byR (exH 1 1) 0 = ([],8) := by kernel_rfl
theorem x11 : sendR (exH 0 0) 1 0 = (1,7,0) := by kernel_rfl
theorem x12 : sendR (exH 1 0) 1 0 = (0,0,9) := by kernel_rfl
theorem intsT4_c (a : List Int) : PCall Tryz.prog 25 [ints a,ints a] (.bool true) := by
 have := ints_c a a
 rwa [decide_eq_true rfl] at this
theorem awake4_c : PCall Tryz.prog 6 [] (.bool true) := by
 intro m
 have a0 := harbour0_c 1
 have a1 := harbour1_c 1
 have a2 := harbour2_c 1
 have a3 := harbour0_c 0
 have b1 := calls_top (exH 1 0) (ex_names 1 0) 0 1 (by decide)
 have b2 := calls_top (exH 1 0) (ex_names 1 0) 0 0 (by decide)
 have b3 := calls_top (exH 1 0) (ex_names 1 0) 1 0 (by decide)
 have b4 := sunk_top (exH 1 2) (ex_names 1 2)
 have b5 := come_top (exH 0 0) (ex_names 0 0) 1 7
 have b6 := come_top (exH 1 0) (ex_names 1 0) 0 5
 have b7 := by_top (exH 1 2) (ex_names 1 2) 0
 have b8 := before_top (exH 1 2) (ex_names 1 2) 1 0
 have b9 := wrong_top (exH 1 1) (ex_names 1 1)
 have b10 := by_top (exH 1 1) (ex_names 1 1) 0
 have b11 := send_top (exH 0 0) (ex_names 0 0) 1 0
 have b12 := send_top (exH 1 0) (ex_names 1 0) 1 0
 have i1 := intsT4_c [0]
 have i2 := intsT4_c [1]
 have s1 := span_c 8 8
 have eq32 := eqFlatSpan4 8 8 8 8
 rw [x1] at b1; rw [x2] at b2; rw [x3] at b3; rw [x4] at b4; rw [x5] at b5; rw [x6] at b6; rw [x7] at b7; rw [x8] at b8; rw [x9] at b9; rw [x10] at b10; rw [x11] at b11; rw [x12] at b12
 simp only [harbA,harbL,exH,List.map_cons,List.map_nil,shipA,shipL,callA,letA,repA,if_true,if_false,Nat.reduceEqDiff,reduceCtorEq,ints] at *
 simp only [decide_true,Bool.and_true] at eq32
 (refine acall_intro (E := envC (modeAt [1,2,3,4,5,8,11] []) false []) (envCOk _ _ _) rfl Tryz.func6 rfl Tryz.call6 (by kernel_rfl) (by simp [Tryz.ntmps6]) ?_; simp only [Tryz.f6];  simp(maxSteps:=9^9)only[↓VX,VQ,seval,Int.reduceEq])
 (refine ACall.pure (a0) ?_; try simp(maxSteps:=9^9)only[↓VX,VQ,seval])
 (refine ACall.pure (a1) ?_; try simp(maxSteps:=9^9)only[↓VX,VQ,seval])
 (refine ACall.pure (a2) ?_; try simp(maxSteps:=9^9)only[↓VX,VQ,seval])
 (refine ACall.pure (a3) ?_; try simp(maxSteps:=9^9)only[↓VX,VQ,seval])
 (refine ACall.pure (b1) ?_; try simp(maxSteps:=9^9)only[↓VX,VQ,seval])
 (refine ACall.pure (b2) ?_; try simp(maxSteps:=9^9)only[↓VX,VQ,seval])
 (refine ACall.pure (b3) ?_; try simp(maxSteps:=9^9)only[↓VX,VQ,seval])
 (refine ACall.pure (b4) ?_; try simp(maxSteps:=9^9)only[↓VX,VQ,seval])
 (refine ACall.pure (b5) ?_; try simp(maxSteps:=9^9)only[↓VX,VQ,seval])
 (refine ACall.pure (b6) ?_; try simp(maxSteps:=9^9)only[↓VX,VQ,seval])
 (refine ACall.pure (b7) ?_; try simp(maxSteps:=9^9)only[↓VX,VQ,seval])
 (refine ACall.pure (b8) ?_; try simp(maxSteps:=9^9)only[↓VX,VQ,seval])
 (refine ACall.pure (b9) ?_; try simp(maxSteps:=9^9)only[↓VX,VQ,seval])
 (refine ACall.pure (b10) ?_; try simp(maxSteps:=9^9)only[↓VX,VQ,seval])
 (refine ACall.pure (b11) ?_; try simp(maxSteps:=9^9)only[↓VX,VQ,seval])
 ((refine ACall.pure (b12) ?_; try simp(maxSteps:=9^9)only[↓VX,VQ,seval]); try simp(maxSteps:=9^9)only[↓VX,VQ,seval,GL])
 (refine adrawQ (by first | exact envOk _ | exact envCOk _ _ _) mixed (by kernel_rfl) 104 ?_; simp only [List.replicate_succ,List.replicate_zero]; show vcOpsD _ _ _ (_ :: _) _ _)
 simp(maxSteps:=9^9)only[↓VX,VQ,seval,Int.reduceEq,eq_self,decide_true,decide_false,if_true,if_false,not_true_eq_false,List.append_eq]
 refine VPure.of s1 ?_
 simp(maxSteps:=9^9)only[↓VX,VQ,seval,Int.reduceEq,eq_self,decide_true,decide_false,if_true,if_false,not_true_eq_false,List.append_eq]
 refine ⟨eq32,?_⟩
 refine VPure.of i1 ?_
 simp(maxSteps:=9^9)only[↓VX,VQ,seval,Int.reduceEq,eq_self,decide_true,decide_false,if_true,if_false,not_true_eq_false,List.append_eq]
 refine VPure.of i1 ?_
 simp(maxSteps:=9^9)only[↓VX,VQ,seval,Int.reduceEq,eq_self,decide_true,decide_false,if_true,if_false,not_true_eq_false,List.append_eq]
 refine VPure.of i1 ?_
 simp(maxSteps:=9^9)only[↓VX,VQ,seval,Int.reduceEq,eq_self,decide_true,decide_false,if_true,if_false,not_true_eq_false,List.append_eq]
 refine VPure.of i2 ?_
 simp(maxSteps:=9^9)only[↓VX,VQ,seval,Int.reduceEq,eq_self,decide_true,decide_false,if_true,if_false,not_true_eq_false,List.append_eq]
def validB (h : RHarb) : Bool := decide ((checkH h).2.2 = 0)
def someB (h : RHarb) : Bool := validB h && okT h []
theorem some_check {h : RHarb} (e : someB h = true) : (checkH h).2.2 = 0 := by
 unfold someB validB at e
 rw [Bool.and_eq_true,decide_eq_true_eq] at e
 exact e.1
theorem some_truths {h : RHarb} (e : someB h = true) : truthsR h [] ≠ [] := fun q => by
 unfold someB okT at e
 rw [Bool.and_eq_true,decide_eq_true_eq,q] at e
 exact absurd e.2 (by decide)
theorem some_known {h : RHarb} (e : someB h = true) : knownR h 0 = (truthsR h [],0) := by
 unfold knownR
 rw [if_neg (by decide),if_neg (some_truths e)]
theorem index_in {c n b : Int} (hc : c = 0) (h : 0 ≤ n ∧ n ≤ b - 1) : indexE c n b = 0 := by
 unfold indexE
 rw [if_pos hc,if_neg (by rw [Bool.not_eq_true,offP_false]; exact h)]
theorem day_in {d e : Int} (he : e = 0) (h : 0 ≤ d ∧ d ≤ 60) : dayE d e = 0 := by
 unfold dayE
 rw [if_pos he,if_neg (by rw [Bool.not_eq_true,offP_false]; exact h)]
def comesE (h : RHarb) (l : Nat) : List Int := (truthsR h []).flatMap (rowE h l)
theorem comeR_some {h : RHarb} (hs : someB h = true) {l : Nat} (hl : l < h.letters.length) {d : Int} (hd : 0 ≤ d ∧ d ≤ 60) :
  comeR h l d = (settledR (cnt (fun e => untilB e d) (comesE h l)) ((comesE h l).length : Int),0) := by
 unfold comeR
 rw [day_in (index_in (some_check hs) ⟨by omega,by omega⟩) hd,some_known hs]
 obtain ⟨i1,i2⟩ := comeTo_is h (truthsR h []) l d _ (Nat.le_refl _)
 simp only [Int.toNat_natCast,if_true]
 rw [i1,i2,List.take_length]
 rfl
theorem truths_go {h : RHarb} {but : List Int} {t : RTru} (e : t ∈ truthsR h but) : trueB h but t.fleet = true := by
 unfold truthsR at e
 simp only [List.mem_map,List.mem_filter] at e
 obtain ⟨f,⟨_,h2⟩,h3⟩ := e
 subst h3
 exact h2
theorem truths_at {h : RHarb} {but : List Int} {t : RTru} (e : t ∈ truthsR h but) {l : Nat} (hl : l < h.letters.length) : t.by_[l]! = couldL h t.fleet l but h.ships.length := by
 rw [truths_by e,byTo_at h _ _ hl]
theorem truths_could {h : RHarb} {but : List Int} {t : RTru} (e : t ∈ truthsR h but) {l : Nat} (hl : l < h.letters.length) : 0 < (couldL h t.fleet l but h.ships.length).length := by
 have := truths_go e
 unfold trueB goB at this
 rw [Bool.and_eq_true,List.all_eq_true] at this
 exact of_decide_eq_true (this.2 l (List.mem_range.2 hl))
theorem comesE_pos {h : RHarb} (hs : someB h = true) {l : Nat} (hl : l < h.letters.length) : 0 < (comesE h l).length := by
 obtain ⟨t,ht⟩ := List.exists_mem_of_ne_nil _ (some_truths hs)
 have h1 : 0 < (rowE h l t).length := by
  unfold rowE
  rw [List.length_map,truths_at ht hl]
  exact truths_could ht hl
 obtain ⟨e,he⟩ := List.exists_mem_of_ne_nil _ (List.length_pos_iff.1 h1)
 exact List.length_pos_of_mem (List.mem_flatMap.2 ⟨t,ht,he⟩)
theorem settled_must {a b : Int} : settledR a b = 1 ↔ a = b := by
 unfold settledR
 constructor
 ·intro q
  split at q
  ·assumption
  ·split at q <;> cases q
 ·intro q; rw [if_pos q]
theorem range_all {α : Type} [Inhabited α] (l : List α) (P : α → Bool) : ((List.range l.length).all fun i => P (l[i]!)) = l.all P := by
 rw [Bool.eq_iff_iff,List.all_eq_true,List.all_eq_true]
 constructor
 ·intro h x hx
  obtain ⟨i,hi,rfl⟩ := List.mem_iff_getElem.1 hx
  rw [← getD_any hi]
  exact h i (List.mem_range.2 hi)
 ·intro h i hi
  have hi := List.mem_range.1 hi
  rw [getD_any hi]
  exact h _ (List.getElem_mem hi)
/-! ### Choices by their order -/
def moreH (h : RHarb) (r : RRep) : RHarb := { h with reports := h.reports ++ [r] }
theorem said_list (h : RHarb) (l : List Fate) : saidB h l [] h.reports.length = h.reports.all fun r => !decide (r.kind < 2) || soB r (dayR h l r.of_.toNat r.port) := by
 rw [← range_all]
 unfold saidB
 refine congrArg (fun f => (List.range h.reports.length).all f) ?_
 funext i
 unfold ofS
 rw [decide_eq_true (by simp : (i : Int) ∉ ([] : List Int)),Bool.and_true]
theorem reps_list (h : RHarb) (l : List Fate) (k s : Nat) : repsB h l k [] s h.reports.length = h.reports.all fun r => !(decide (2 ≤ r.kind) && decide (r.of_ = (k : Int))) || soB r (dayR h l s (h.letters[k]!).port) := by
 rw [← range_all]
 unfold repsB
 refine congrArg (fun f => (List.range h.reports.length).all f) ?_
 funext i
 unfold ofB
 rw [decide_eq_true (by simp : (i : Int) ∉ ([] : List Int)),Bool.and_true]
theorem said_more {h : RHarb} {r : RRep} {l : List Fate} (e : saidB (moreH h r) l [] (moreH h r).reports.length = true) : saidB h l [] h.reports.length = true := by
 rw [said_list] at e ⊢
 have e : (h.reports ++ [r]).all (fun r => !decide (r.kind < 2) || soB r (dayR h l r.of_.toNat r.port)) = true := e
 rw [List.all_append,Bool.and_eq_true] at e
 exact e.1
theorem can_more {h : RHarb} {r : RRep} {l : List Fate} {k s : Nat} (e : canB (moreH h r) l k [] s = true) : canB h l k [] s = true := by
 unfold canB at e ⊢
 rw [reps_list] at e ⊢
 have e : (shipB h k s && (h.reports ++ [r]).all fun r => !(decide (2 ≤ r.kind) && decide (r.of_ = (k : Int))) || soB r (dayR h l s (h.letters[k]!).port)) = true := e
 rw [List.all_append,Bool.and_eq_true,Bool.and_eq_true] at e
 rw [Bool.and_eq_true]
 exact ⟨e.1,e.2.1⟩
theorem mem_could {h : RHarb} {l : List Fate} {k : Nat} {but : List Int} {n : Nat} {x : Int} : x ∈ couldL h l k but n ↔ ∃ s : Nat,x = s ∧ s < n ∧ canB h l k but s = true := by
 unfold couldL
 simp only [List.mem_map,List.mem_filter,List.mem_range]
 constructor
 ·rintro ⟨s,⟨h1,h2⟩,rfl⟩; exact ⟨s,rfl,h1,h2⟩
 ·rintro ⟨s,rfl,h1,h2⟩; exact ⟨s,⟨h1,h2⟩,rfl⟩
theorem could_more {h : RHarb} {r : RRep} {l : List Fate} {k n : Nat} {x : Int} (e : x ∈ couldL (moreH h r) l k [] n) : x ∈ couldL h l k [] n := by
 obtain ⟨s,h1,h2,h3⟩ := mem_could.1 e
 exact mem_could.2 ⟨s,h1,h2,can_more h3⟩
theorem mem_truths {h : RHarb} {but : List Int} {t : RTru} : t ∈ truthsR h but ↔ t.fleet ∈ fleetsR h.ships h.lost ∧ trueB h but t.fleet = true ∧ t = truOf h but t.fleet := by
 unfold truthsR
 simp only [List.mem_map,List.mem_filter]
 constructor
 ·rintro ⟨f,⟨h1,h2⟩,rfl⟩; exact ⟨h1,h2,rfl⟩
 ·rintro ⟨h1,h2,h3⟩; exact ⟨t.fleet,⟨h1,h2⟩,h3.symm⟩
theorem truOf_mem {h : RHarb} {but : List Int} {f : List Fate} (h1 : f ∈ fleetsR h.ships h.lost) (h2 : trueB h but f = true) : truOf h but f ∈ truthsR h but := mem_truths.2 ⟨h1,h2,rfl⟩
theorem true_more {h : RHarb} {r : RRep} {l : List Fate} (e : trueB (moreH h r) [] l = true) : trueB h [] l = true := by
 unfold trueB goB at e ⊢
 rw [Bool.and_eq_true] at e ⊢
 refine ⟨said_more e.1,?_⟩
 rw [List.all_eq_true]
 intro k hk
 have := List.all_eq_true.1 e.2 k hk
 have := of_decide_eq_true this
 obtain ⟨x,hx⟩ := List.exists_mem_of_ne_nil _ (List.length_pos_iff.1 this)
 exact decide_eq_true (List.length_pos_of_mem (could_more hx))
theorem truth_more {h : RHarb} {r : RRep} {t : RTru} (e : t ∈ truthsR (moreH h r) []) : ∃ t' ∈ truthsR h [],t'.fleet = t.fleet ∧ ∀ k,k < h.letters.length → ∀ x ∈ t.by_[k]!,x ∈ t'.by_[k]! := by
 obtain ⟨h1,h2,h3⟩ := mem_truths.1 e
 have hm := truOf_mem (h := h) (but := []) (f := t.fleet) h1 (true_more h2)
 refine ⟨_,hm,rfl,fun k hk x hx => ?_⟩
 have hk' : k < (moreH h r).letters.length := hk
 rw [truths_at e hk'] at hx
 rw [truths_at hm hk]
 exact could_more hx
theorem settled_never {a b : Int} (hb : 0 < b) : settledR a b = 2 ↔ a = 0 := by
 unfold settledR; split
 ·omega
 ·split <;> omega
theorem comes_more {h : RHarb} {r : RRep} {l : Nat} (hl : l < h.letters.length) {x : Int} (e : x ∈ comesE (moreH h r) l) : x ∈ comesE h l := by
 unfold comesE at *
 obtain ⟨t,ht,hx⟩ := List.mem_flatMap.1 e
 obtain ⟨t',m1,m2,m3⟩ := truth_more ht
 refine List.mem_flatMap.2 ⟨t',m1,?_⟩
 unfold rowE at *
 obtain ⟨s,q1,q2⟩ := List.mem_map.1 hx
 refine List.mem_map.2 ⟨s,m3 l hl s q1,?_⟩
 rw [m2]; exact q2
theorem met_any (b : RBook) (T : List RTru) (a k : Nat) : metC b T a k T.length = T.any fun t => canR b t a k := any_range (fun t => canR b t a k) T
theorem mem_couldC {b : RBook} {T : List RTru} {a n : Nat} {x : Int} : x ∈ couldC b T a n ↔ ∃ k : Nat,x = k ∧ k < n ∧ ∃ t ∈ T,canR b t a k = true := by
 have e : couldC b T a n = idxF (fun k => metC b T a k T.length) n := rfl
 rw [e]
 constructor
 ·intro h
  have h' := h
  unfold idxF at h
  simp only [List.mem_map,List.mem_filter,List.mem_range] at h
  obtain ⟨k,⟨h1,h2⟩,rfl⟩ := h
  rw [met_any,List.any_eq_true] at h2
  exact ⟨k,rfl,h1,h2⟩
 ·rintro ⟨k,rfl,h1,h2⟩
  rw [mem_idxF,met_any,List.any_eq_true]
  exact ⟨h1,h2⟩
theorem could_ok {b : RBook} (q : (checkB b).2.2 = 0) {a : Nat} (ha : a < b.answers.length) : couldR b a = (couldC b (truthsR b.harb []) a b.harb.letters.length,0) := by
 unfold couldR
 rw [index_ok q (by omega),if_pos rfl,Int.toNat_natCast]
def heardB (b : RBook) (r : RRep) : RBook := { b with harb := moreH b.harb r }
/-! ### Days on which a letter came -/
def camDL (b : RBook) (F : List (RTru × List Int)) (k : Nat) : List Int := F.flatMap fun x => (rowE b.harb k x.1).filter fun d => fineB b x.2 k d
theorem camIn_fold (b : RBook) (w : List Int) (k : Nat) : ∀ (l : List Int) (s : RCam),l.foldl (fun s d => if fineB b w k d = true then camStep s d else s) s = (l.filter fun d => fineB b w k d).foldl camStep s
 | [],s => rfl
 | d :: l,s => by
  rw [List.foldl_cons,List.filter_cons]
  by_cases q : fineB b w k d = true
  ·rw [if_pos q,if_pos q,List.foldl_cons]; exact camIn_fold b w k l _
  ·rw [if_neg q,if_neg q]; exact camIn_fold b w k l _
theorem camTo_fold (b : RBook) (k : Nat) : ∀ (F : List (RTru × List Int)) (s : RCam),F.foldl (fun s x => camIn b x.2 k s (rowE b.harb k x.1) (rowE b.harb k x.1).length) s = (camDL b F k).foldl camStep s
 | [],s => rfl
 | x :: F,s => by
  rw [List.foldl_cons,camTo_fold b k F]
  unfold camDL
  rw [List.flatMap_cons,List.foldl_append]
  congr 1
  unfold camIn
  rw [List.take_length]
  exact camIn_fold b x.2 k _ s
theorem camTo_all (b : RBook) (F : List (RTru × List Int)) (k : Nat) : camTo b F k F.length = (camDL b F k).foldl camStep ⟨0,0,0,0⟩ := by
 unfold camTo
 rw [List.take_length]
 exact camTo_fold b k F _
theorem cam_all : ∀ (l : List Int) (s : RCam),(l.foldl camStep s).all = s.all + l.length
 | [],s => by simp
 | d :: l,s => by
  rw [List.foldl_cons,cam_all l]
  have : (camStep s d).all = s.all + 1 := by
   unfold camStep
   split
   ·rfl
   ·split <;> rfl
  rw [this,List.length_cons]
  omega
structure CamOk (l : List Int) (s : RCam) : Prop where
 yes : s.yes = ((l.filter fun d => decide (0 ≤ d)).length : Nat)
 lo : 0 < s.yes → s.lo ∈ l ∧ 0 ≤ s.lo
 hi : 0 < s.yes → s.hi ∈ l ∧ 0 ≤ s.hi
 all : ∀ d ∈ l,0 ≤ d → s.lo ≤ d ∧ d ≤ s.hi
theorem cam_step {l : List Int} {s : RCam} (h : CamOk l s) (d : Int) : CamOk (l ++ [d]) (camStep s d) := by
 obtain ⟨h1,h2,h3,h4⟩ := h
 have hf : ((l ++ [d]).filter fun d => decide (0 ≤ d)).length = (l.filter fun d => decide (0 ≤ d)).length + if 0 ≤ d then 1 else 0 := by
  rw [List.filter_append,List.length_append,List.filter_cons]
  by_cases q : 0 ≤ d
  ·rw [if_pos (decide_eq_true q),if_pos q]; rfl
  ·rw [if_neg (by rw [decide_eq_true_eq]; exact q),if_neg q]; rfl
 have hz : s.yes = 0 → ∀ e ∈ l,e < 0 := fun q e he => by
  have : (l.filter fun d => decide (0 ≤ d)).length = 0 := by omega
  have := List.filter_eq_nil_iff.1 (List.length_eq_zero_iff.1 this) e he
  rw [decide_eq_true_eq] at this
  omega
 unfold camStep
 split
 ·rename_i q
  rw [if_neg (by omega)] at hf
  refine ⟨by dsimp only; omega,fun w => ?_,fun w => ?_,fun e he h0 => ?_⟩
  ·exact ⟨List.mem_append_left _ (h2 w).1,(h2 w).2⟩
  ·exact ⟨List.mem_append_left _ (h3 w).1,(h3 w).2⟩
  ·rcases List.mem_append.1 he with he | he
   ·exact h4 e he h0
   ·rw [List.mem_singleton] at he; omega
 ·rename_i q
  rw [if_pos (by omega)] at hf
  split
  ·rename_i y
   refine ⟨by dsimp only; omega,fun _ => ?_,fun _ => ?_,fun e he h0 => ?_⟩
   ·exact ⟨by simp,by dsimp only; omega⟩
   ·exact ⟨by simp,by dsimp only; omega⟩
   ·rcases List.mem_append.1 he with he | he
    ·have := hz y e he; omega
    ·rw [List.mem_singleton] at he; dsimp only; omega
  ·rename_i y
   have hp : 0 < s.yes := by omega
   obtain ⟨a1,a2⟩ := h2 hp
   obtain ⟨b1,b2⟩ := h3 hp
   refine ⟨by dsimp only; omega,fun _ => ?_,fun _ => ?_,fun e he h0 => ?_⟩
   ·dsimp only
    rcases (show min s.lo d = s.lo ∨ min s.lo d = d by omega) with w | w <;> rw [w]
    ·exact ⟨List.mem_append_left _ a1,a2⟩
    ·exact ⟨by simp,by omega⟩
   ·dsimp only
    rcases (show max s.hi d = s.hi ∨ max s.hi d = d by omega) with w | w <;> rw [w]
    ·exact ⟨List.mem_append_left _ b1,b2⟩
    ·exact ⟨by simp,by omega⟩
   ·dsimp only
    rcases List.mem_append.1 he with he | he
    ·have := h4 e he h0; omega
    ·rw [List.mem_singleton] at he; omega
theorem cam_ok : ∀ (l p : List Int) (s : RCam),CamOk p s → CamOk (p ++ l) (l.foldl camStep s)
 | [],p,s,h => by simpa using h
 | d :: l,p,s,h => by
  have := cam_ok l (p ++ [d]) (camStep s d) (cam_step h d)
  rw [List.append_assoc] at this
  exact this
theorem came_is {b : RBook} {k : Nat} : CamOk (camDL b (fairR b) k) (camTo b (fairR b) k (fairR b).length) ∧ (camTo b (fairR b) k (fairR b).length).all = (camDL b (fairR b) k).length := by
 rw [camTo_all]
 constructor
 ·have := cam_ok (camDL b (fairR b) k) [] ⟨0,0,0,0⟩ ⟨rfl,fun h => absurd h (by decide),fun h => absurd h (by decide),fun _ h => by cases h⟩
  simpa using this
 ·rw [cam_all]; simp
theorem came_ok {b : RBook} (q : (checkB b).2.2 = 0) {k : Nat} (hk : k < b.harb.letters.length) : cameR b k = (camTo b (fairR b) k (fairR b).length,settledR (camTo b (fairR b) k (fairR b).length).yes (camTo b (fairR b) k (fairR b).length).all,0) := by
 unfold cameR
 rw [index_ok q (by omega),if_pos rfl,Int.toNat_natCast]
theorem mem_camDL {b : RBook} {k : Nat} {d : Int} : d ∈ camDL b (fairR b) k ↔ ∃ x ∈ fairR b,d ∈ rowE b.harb k x.1 ∧ fineB b x.2 k d = true := by
 unfold camDL
 simp only [List.mem_flatMap,List.mem_filter]
theorem fineTo_is {b : RBook} {w : List Int} {k : Nat} {d : Int} : ∀ n : Nat,(∀ i j,i < n → j < n → w[i]! = (k : Int) → w[j]! = (k : Int) → i = j) → (fineTo b w k d n = true ↔ ∀ a,a < n → w[a]! = (k : Int) → untilB d ((b.answers[a]!).day - b.back) = true)
 | 0,_ => by simp [fineTo]
 | n + 1,ho => by
  unfold fineTo
  by_cases q : w[n]! = (k : Int)
  ·rw [if_pos q]
   constructor
   ·intro h a ha e
    rw [ho a n ha (by omega) e q]; exact h
   ·intro h; exact h n (by omega) q
  ·rw [if_neg q,fineTo_is n fun i j hi hj => ho i j (by omega) (by omega)]
   constructor
   ·intro h a ha e
    by_cases w2 : a = n
    ·subst w2; exact absurd e q
    ·exact h a (by omega) e
   ·intro h a ha e; exact h a (by omega) e
theorem fine_is {b : RBook} {x : RTru × List Int} (hx : x ∈ fairR b) {k : Nat} {d : Int} : fineB b x.2 k d = true ↔ ∀ a,a < b.answers.length → x.2[a]! = (k : Int) → untilB d ((b.answers[a]!).day - b.back) = true :=
 fineTo_is b.answers.length fun _ _ hi hj h1 h2 => fair_once hx hi hj h1 h2
theorem cam_pos {b : RBook} (hb : BOk b) {k : Nat} (hk : k < b.harb.letters.length) : 0 < (camDL b (fairR b) k).length := by
 have hp := fair_pos hb
 have hx : (fairR b)[0]! ∈ fairR b := by rw [getD_any hp]; exact List.getElem_mem hp
 generalize (fairR b)[0]! = x at hx
 obtain ⟨h1,h2,h3⟩ := fair_mem.1 hx
 have : ∃ d ∈ rowE b.harb k x.1,fineB b x.2 k d = true := by
  by_cases q : ∃ a,a < b.answers.length ∧ x.2[a]! = (k : Int)
  ·obtain ⟨a,ha,e⟩ := q
   rcases (mem_waysR.1 h2).2 a ha with w | ⟨k',_,w2,_,w4⟩
   ·omega
   ·have : k = k' := by omega
    subst this
    unfold canR soonB at w4
    rw [Bool.and_eq_true,List.any_eq_true] at w4
    obtain ⟨d,hd,hu⟩ := w4.2
    refine ⟨d,hd,(fine_is hx).2 fun a' ha' e' => ?_⟩
    rw [fair_once hx ha' ha e' e]; exact hu
  ·obtain ⟨d,hd⟩ : ∃ d,d ∈ rowE b.harb k x.1 := by
    have h4 := (mem_truths.1 h1).2.1
    unfold trueB goB at h4
    rw [Bool.and_eq_true,List.all_eq_true] at h4
    have := of_decide_eq_true (h4.2 k (List.mem_range.2 hk))
    obtain ⟨s,hs⟩ := List.exists_mem_of_ne_nil _ (List.length_pos_iff.1 this)
    refine ⟨_,List.mem_map.2 ⟨s,?_,rfl⟩⟩
    rw [truths_at h1 hk]; exact hs
   exact ⟨d,hd,(fine_is hx).2 fun a ha e => absurd ⟨a,ha,e⟩ q⟩
 obtain ⟨d,hd,hf⟩ := this
 exact List.length_pos_of_mem (mem_camDL.2 ⟨x,hx,hd,hf⟩)
theorem b_some {b : RBook} (q : (checkB b).2.2 = 0) : someB b.harb = true := by
 unfold someB validB okT
 rw [decide_eq_true (check_harb q),decide_eq_true (List.length_pos_iff.2 (bok_check q).t)]; rfl
def lackR (k : Nat) (d : Int) : RRep := ⟨3,k,0,d⟩
theorem soon_comes {b : RBook} {t : RTru} (ht : t ∈ truthsR b.harb []) {k : Nat} {u : Int} (h : soonB (rowE b.harb k t) u = true) : ∃ d ∈ comesE b.harb k,untilB d u = true := by
 unfold soonB at h
 rw [List.any_eq_true] at h
 obtain ⟨d,hd,q⟩ := h
 unfold comesE
 exact ⟨d,List.mem_flatMap.2 ⟨t,ht,hd⟩,q⟩
theorem can_comes {b : RBook} {a k : Nat} {T : List RTru} (hT : T = truthsR b.harb []) {n : Nat} (h : (k : Int) ∈ couldC b T a n) : ∃ d ∈ comesE b.harb k,untilB d ((b.answers[a]!).day - b.back) = true := by
 subst hT
 obtain ⟨k',e,_,t,ht,c⟩ := mem_couldC.1 h
 have : k = k' := by omega
 subst this
 unfold canR at c
 rw [Bool.and_eq_true] at c
 exact soon_comes ht c.2
theorem belongs_could {b : RBook} (q : (checkB b).2.2 = 0) {a k : Nat} (ha : a < b.answers.length) (hk : k < b.harb.letters.length) (h : (belongsR b a k).1 ≠ 2) : (k : Int) ∈ (couldR b a).1 := by
 have hp := fair_pos (bok_check q)
 rw [belongs_ok q ha hk] at h
 have h : ¬ askF (fun x : RTru × List Int => decide (x.2[a]! = (k : Int))) (fairR b) = 2 := h
 rw [ask_none hp] at h
 obtain ⟨x,hx⟩ := Classical.not_forall.1 h
 obtain ⟨hx,e⟩ := Classical.not_imp.1 hx
 rw [decide_eq_true_eq,Decidable.not_not] at e
 rw [could_ok q ha]
 obtain ⟨h1,h2,_⟩ := fair_mem.1 hx
 rcases (mem_waysR.1 h2).2 a ha with w | ⟨k',_,w2,_,w4⟩
 ·omega
 ·have : k = k' := by omega
  subst this
  exact mem_couldC.2 ⟨k,rfl,hk,_,h1,w4⟩
theorem belongs_came {b : RBook} (q : (checkB b).2.2 = 0) {a k : Nat} (ha : a < b.answers.length) (hk : k < b.harb.letters.length) (h : (belongsR b a k).1 = 1) : (cameR b k).2.1 = 1 ∧ (cameR b k).1.hi ≤ (b.answers[a]!).day - b.back := by
 have hb := bok_check q
 rw [belongs_ok q ha hk] at h
 have h : askF (fun x : RTru × List Int => decide (x.2[a]! = (k : Int))) (fairR b) = 1 := h
 rw [ask_all] at h
 have hd : ∀ d ∈ camDL b (fairR b) k,untilB d ((b.answers[a]!).day - b.back) = true := fun d hd => by
  obtain ⟨x,hx,_,h2⟩ := mem_camDL.1 hd
  have := h x hx
  rw [decide_eq_true_eq] at this
  exact (fine_is hx).1 h2 a ha this
 have hp := cam_pos hb hk
 obtain ⟨c1,c2⟩ := came_is (b := b) (k := k)
 rw [came_ok q hk]
 generalize camTo b (fairR b) k (fairR b).length = C at *
 generalize camDL b (fairR b) k = L at *
 have h0 : ∀ d ∈ L,decide (0 ≤ d) = true := fun d hx => by
  have := hd d hx
  unfold untilB at this
  rw [Bool.and_eq_true] at this
  exact this.1
 have hy : C.yes = C.all := by
  rw [c1.yes,c2,List.length_filter_eq_length_iff.2 h0]
 refine ⟨settled_must.2 hy,?_⟩
 have := (c1.hi (by omega)).1
 have := hd _ this
 unfold untilB at this
 rw [Bool.and_eq_true,decide_eq_true_eq,decide_eq_true_eq] at this
 exact this.2
theorem more_lack {h : RHarb} {k : Nat} {d : Int} {t : RTru} (ht : t ∈ truthsR (moreH h (lackR k d)) []) (hk : k < h.letters.length) : ∀ x ∈ rowE (moreH h (lackR k d)) k t,untilB x d = false := by
 intro x hx
 unfold rowE at hx
 obtain ⟨s,hs,rfl⟩ := List.mem_map.1 hx
 rw [truths_at ht (show k < (moreH h (lackR k d)).letters.length from hk)] at hs
 obtain ⟨s',rfl,_,h3⟩ := mem_could.1 hs
 unfold canB at h3
 rw [reps_list,Bool.and_eq_true,List.all_eq_true] at h3
 have := h3.2 (lackR k d) (by show _ ∈ h.reports ++ [lackR k d]; simp)
 rw [Bool.or_eq_true] at this
 rcases this with w | w
 ·exfalso
  unfold lackR at w
  simp at w
 ·unfold soB at w
  rw [if_neg (by unfold lackR; simp)] at w
  rw [Bool.not_eq_true'] at w
  exact w
theorem lack_law {b : RBook} {a k : Nat} (q : (checkB b).2.2 = 0) (ha : a < b.answers.length) (hk : k < b.harb.letters.length) (h0 : 0 ≤ (b.answers[a]!).day - b.back)
  (q' : (checkB (heardB b (lackR k ((b.answers[a]!).day - b.back)))).2.2 = 0) :
  (belongsR (heardB b (lackR k ((b.answers[a]!).day - b.back))) a k).2 = 0 ∧ (couldR (heardB b (lackR k ((b.answers[a]!).day - b.back))) a).2 = 0 ∧ (comeR (moreH b.harb (lackR k ((b.answers[a]!).day - b.back))) k ((b.answers[a]!).day - b.back)).2 = 0 ∧
  (belongsR (heardB b (lackR k ((b.answers[a]!).day - b.back))) a k).1 = 2 ∧ (k : Int) ∉ (couldR (heardB b (lackR k ((b.answers[a]!).day - b.back))) a).1 ∧ (comeR (moreH b.harb (lackR k ((b.answers[a]!).day - b.back))) k ((b.answers[a]!).day - b.back)).1 = 2 ∧
  (comeR b.harb k ((b.answers[a]!).day - b.back)).1 ≠ 1 := by
 have hb := bok_check q
 have hu : (b.answers[a]!).day - b.back ≤ 60 := by have := hb.back; have := (hb.ans a ha).2.2; omega
 have hnl := hb.h.nl
 generalize hU : (b.answers[a]!).day - b.back = U at *
 have ha' : a < (heardB b (lackR k U)).answers.length := ha
 have hk' : k < (heardB b (lackR k U)).harb.letters.length := hk
 have hkm : k < (moreH b.harb (lackR k U)).letters.length := hk
 have s1 := b_some q
 have s2 : someB (moreH b.harb (lackR k U)) = true := b_some q'
 have hno : ∀ d ∈ comesE (moreH b.harb (lackR k U)) k,untilB d U = false := fun d hd => by
  unfold comesE at hd
  obtain ⟨t,ht,hx⟩ := List.mem_flatMap.1 hd
  exact more_lack ht hk d hx
 have hnc : (k : Int) ∉ (couldR (heardB b (lackR k U)) a).1 := fun hc => by
  rw [could_ok q' ha'] at hc
  obtain ⟨d,hd,e⟩ := can_comes (b := heardB b (lackR k U)) rfl hc
  have e2 : untilB d U = true := by rw [← hU]; exact e
  rw [hno d hd] at e2; cases e2
 have hp2 := comesE_pos s2 hkm
 refine ⟨by rw [belongs_ok q' ha' hk'],by rw [could_ok q' ha'],by rw [comeR_some s2 hkm ⟨h0,hu⟩],?_,hnc,?_,?_⟩
 ·exact Decidable.byContradiction fun h => hnc (belongs_could q' ha' hk' h)
 ·rw [comeR_some s2 hkm ⟨h0,hu⟩]
  show settledR _ _ = 2
  rw [settled_never (by omega),cnt_none]
  exact hno
 ·rw [comeR_some s1 hk ⟨h0,hu⟩]
  show settledR _ _ ≠ 1
  rw [ne_eq,settled_must,cnt_all]
  intro h
  obtain ⟨d,hd⟩ := List.exists_mem_of_ne_nil _ (List.length_pos_iff.1 hp2)
  have := h d (comes_more hk hd)
  rw [hno d hd] at this; cases this
theorem lacked_law {b : RBook} {a k : Nat} (q : (checkB b).2.2 = 0) (ha : a < b.answers.length) (hk : k < b.harb.letters.length) :
  (belongsR b a k).2 = 0 ∧ (couldR b a).2 = 0 ∧ (cameR b k).2.2 = 0 ∧ ((belongsR b a k).1 ≠ 2 → (k : Int) ∈ (couldR b a).1) ∧ ((belongsR b a k).1 = 1 → (cameR b k).2.1 = 1 ∧ (cameR b k).1.hi ≤ (b.answers[a]!).day - b.back) ∧
  ((b.answers[a]!).day - b.back < 0 → (belongsR b a k).1 = 2 ∧ (k : Int) ∉ (couldR b a).1) ∧
  (0 ≤ (b.answers[a]!).day - b.back → (comeR b.harb k ((b.answers[a]!).day - b.back)).2 = 0 ∧ ((comeR b.harb k ((b.answers[a]!).day - b.back)).1 = 2 → (belongsR b a k).1 = 2 ∧ (k : Int) ∉ (couldR b a).1)) := by
 have hb := bok_check q
 have hu : (b.answers[a]!).day - b.back ≤ 60 := by have := hb.back; have := (hb.ans a ha).2.2; omega
 have s1 := b_some q
 have hbc := belongs_could q ha hk
 have key : (k : Int) ∉ (couldR b a).1 → (belongsR b a k).1 = 2 ∧ (k : Int) ∉ (couldR b a).1 := fun h => ⟨Decidable.byContradiction fun h2 => h (hbc h2),h⟩
 refine ⟨by rw [belongs_ok q ha hk],by rw [could_ok q ha],by rw [came_ok q hk],hbc,belongs_came q ha hk,fun h => key fun hc => ?_,fun h0 => ?_⟩
 ·rw [could_ok q ha] at hc
  obtain ⟨d,hd,e⟩ := can_comes rfl hc
  unfold untilB at e
  rw [Bool.and_eq_true,decide_eq_true_eq,decide_eq_true_eq] at e
  omega
 ·have hp := comesE_pos s1 hk
  rw [comeR_some s1 hk ⟨h0,hu⟩]
  refine ⟨rfl,fun h => key fun hc => ?_⟩
  have h : settledR _ _ = 2 := h
  rw [settled_never (by omega),cnt_none] at h
  rw [could_ok q ha] at hc
  obtain ⟨d,hd,e⟩ := can_comes rfl hc
  rw [h d hd] at e; cases e
theorem could_no {b : RBook} (h : (checkB b).2.2 ≠ 0 ∨ b.answers.length = 0) : (couldR b 0).2 ≠ 0 := by
 have key : indexB b 0 b.answers.length ≠ 0 := index_no (by omega)
 unfold couldR
 rw [if_neg key]; exact key
end Go.Proofs.YtikodjpbknneoaaGreat.Abs
