/- Lemmas for the statements of this seat (X17): they hold without conditions beyond those that each one states. -/
import Derived.Test.YteppmjlfpniiaaaGreatX16
import Derived.Test.YteppmjlfpniiaaaGreatX14
import Derived.Test.YteppmjlfpniiaaaGreatX12
import Derived.WideKeyRuns
import Derived.Test.YteppmjlfpniiaaaGreatX13
/- Contracts: Come. -/
namespace Go.Proofs.YteppmjlfpniiaaaGreat.Abs
set_option linter.unusedSimpArgs false
set_option maxHeartbeats 4000000
set_option maxRecDepth 100000
open Go Go.RowKit Go.Proofs
theorem come_top (h : RHarb) (hs : hnamesFit h) (letter day : Int) : PCall Tryz.prog 22 [harbA h,.int .i64 letter,.int .i64 day] (.tuple [.int .i64 (comeR h letter day).1,.int .i64 (comeR h letter day).2]) := by
 intro m
 refine ACall.forget ?_
 have hen := fun other m => enter_c h hs h.letters.length other [letter] (fun q => by have := (hok_check q).nl; omega) m
 have hE := comeR_err (h := h) (letter := letter) (day := day)
 have hbad := comeR_bad (h := h) (letter := letter) (day := day)
 have hgood := comeR_good (h := h) (letter := letter) (day := day)
 have hdat := dated_c day
 have hhow := how_c
 have hd60 : datedE day = 0 → 0 ≤ day ∧ day ≤ 60 := fun e => by
  unfold datedE at e
  split at e
  ·cases e
  ·rename_i q; rwa [Bool.not_eq_true,offP_false] at q
 generalize comeR h letter day = R at *
 generalize datedE day = W at *
 simp only [harbA,harbL,ints,List.map_nil,List.map_cons] at hen ⊢
 (refine acall_intro (E := envC (modeAt [8,11,12] [10]) false []) (envCOk _ _ _) rfl Tryz.func22 rfl Tryz.call22 (by kernel_rfl) (by simp [Tryz.ntmps22]) ?_; simp only [Tryz.f22];  simp(maxSteps:=9^9)only[↓VX,VQ,seval])
 (refine adrawP (by first | exact envOk _ | exact envCOk _ _ _) mixed [12,0,1,2,3,4,5,6,7,8,9,10,11,13,14] [⟨true,false,0⟩,⟨true,false,0⟩,⟨true,false,0⟩,⟨true,false,0⟩,⟨true,false,0⟩,⟨true,false,0⟩,⟨true,false,0⟩,⟨true,false,0⟩,⟨false,false,2⟩,⟨true,false,0⟩,⟨true,false,0⟩,⟨true,false,0⟩,⟨true,false,0⟩,⟨false,false,0⟩,⟨false,false,0⟩] (by kernel_rfl) ?_; simp only [List.map_cons,List.map_nil,List.getD_cons_zero,List.getD_cons_succ,List.getElem?_cons_zero,List.getElem?_cons_succ,Option.getD_some]; show vcOpsD _ _ _ (_ :: _) _ _)
 simp(maxSteps:=9^9)only[↓VX,VQ,seval]
 repeat'(first|intro _|apply And.intro)
 refine VPure.of hdat ?_
 simp(maxSteps:=9^9)only[↓VX,VQ,seval]
 repeat'(first|intro _|apply And.intro)
 refine ACall.told (hen _ _) ?_
 rintro r m1 ⟨kk,⟨hz,rfl⟩ | ⟨hz,bm,hbm,rfl,hkn⟩⟩
 ·rw [← hE] at hz
  have hb := hbad hz
  rw [← hE]
  generalize R.2 = e at *
  subst hb
  simp(maxSteps:=9^9)only[↓VX,VQ,seval,hz]
  exact ⟨m,fun b x hx => kk b x (fun h => h) hx,rfl⟩
 ·obtain ⟨z1,z2,z3,z4⟩ := enter_zero hz
  have hle := z2 letter (by simp)
  have hd := hd60 z3
  have hh := hok_check z1
  have h3 := hh.n
  have h4 := hh.nl
  have hR := hgood (by rw [hE]; exact hz)
  have hkl : letter.toNat < h.letters.length := by omega
  have hlk : letter = ((letter.toNat : Nat) : Int) := by omega
  generalize letter.toNat = k at *
  subst hlk
  have htr := truthsF_c h 0 bm
  have hbn : ∃ y,m1 bm = some y := by obtain ⟨ls,k1,k2⟩ := hkn; exact ⟨_,k2⟩
  obtain ⟨yb,hbn⟩ := hbn
  have ht1 := fun (l : Nat) (S : Nat → Prop) (J : List (List Fate) → Mem → Prop) (F : Mem → Prop) (hy : YTok h 0 bm l S J F) (m : Mem) => truths1_c h hh 0 (by decide) bm hy m
  have hlist := fun s (q : s < 2 ^ 62) => list_c s h.ships.length q (by omega)
  have hday := fun (x : List Fate) (hx : FOk h x) (s : Nat) (q : s < h.ships.length) => day_c h hh 0 bm (fun i => x[i]!) s (h.letters[k]!).port q (hx.late _ (by rw [hx.n]; exact q))
  have hp : (2 : Nat) ^ h.ships.length ≤ 2 ^ 3 := Nat.pow_le_pow_right (by decide) h3
  simp only [lookedL,Int.natCast_zero,ints,fleetA] at htr hlist hday ⊢
  subst hR
  clear hen hbad hgood
  simp(maxSteps:=9^9)only[↓VX,VQ,seval]
  intro b10 hb10
  have n10 := ne_of_some hbn hb10
  (refine ACall.pure (htr) ?_; try simp(maxSteps:=9^9)only[↓VX,VQ,seval])
  refine ARange.freeze 8 ?_
  simp(maxSteps:=9^9)only[↓VX,VQ,seval]
  refine arange rfl (f := 90) (first := []) (caps := [.eptr [.eptr (lookedL h 0 bm)]]) (by simp(maxSteps:=9^9)only[↓VX,VQ,seval,lookedL,Int.natCast_zero]) ?_
  intro l hl
  have hl10 : l ≠ b10 := by rintro rfl; simp [upd] at hl
  have hl0 : m1 l = none := by simpa [upd,hl10] using hl
  have nl := ne_of_some hbn hl0
  generalize hR : LoopA.mk _ _ _ _ _ = R
  have hyok : YTok h 0 bm l (fun k => k = l ∨ k = b10) (fun pre m2 => m2 l = some (.loop .ready none R) ∧ m2 b10 = some (.cells [.int .i64 (cnt (fun d => decide (d ≤ day)) (daysC h k pre)),.int .i64 ((daysC h k pre).length : Nat)])) (fun _ => False) := by
   refine ⟨fun pre x m2 hn hx hin ok hk hJ => ?_,fun pre m2 m3 hJ hs => ?_⟩
   ·obtain ⟨j3,j10⟩ := hJ
    subst hR
    refine ayield (E := envC (modeAt [8,11,12] [10]) true []) (envCOk _ _ _) rfl j3 rfl (by rfl) (by rfl) (by rfl) ?_
    have hfl := nL_length (loadK h 0 x h.reports.length) 4
    have hff := nL_flat (loadK h 0 x h.reports.length) 4
    have hdr := nL_drop (f := loadK h 0 x h.reports.length) (show k < 4 by omega)
    have hat := load_at (h := h) (x := x) hkl
    have hd4 : List.drop 4 [AV.int .i64 0,AV.int .i64 0,AV.int .i64 0,AV.int .i64 0] = [] := rfl
    have hd6 : List.drop 6 [AV.int .i64 0,AV.int .i64 0,AV.int .i64 0,AV.int .i64 0,AV.int .i64 0,AV.int .i64 0] = [] := rfl
    have hgl := fleetL_length fun i => x[i]!
    have hgf := fleetL_flat fun i => x[i]!
    have hgt := fleetL_take fun i => x[i]!
    have hv2 := setOf_lt (loadB h (fun i => x[i]!) k 0 h.reports.length) h.ships.length
    have hlst := hlist (setOf (loadB h (fun i => x[i]!) k 0 h.reports.length) h.ships.length) (by omega)
    change PCall _ _ _ (.slice 1 ((goL h k x).map (AV.int .i64))) at hlst
    have hgn := goL_length h k x
    rw [hat] at hdr
    simp(maxSteps:=9^9)only[↓VX,VQ,seval,j3,loadsV,keyA,fleetA,hfl,hff,hd4,hgl,hgf,hd6]
    generalize hmB : upd m2 l (some _) = mB
    have hbl := congrFun hmB l
    rw [upd_same] at hbl
    have hbl := hbl.symm
    have hB : ∀ k,k ≠ l → mB k = m2 k := fun k hk => by rw [← hmB,upd_ne _ _ hk]
    (refine adraw (by first | exact envOk _ | exact envCOk _ _ _) mixed [⟨false,false,0⟩,⟨false,false,0⟩,⟨false,false,0⟩,⟨false,false,0⟩,⟨false,false,0⟩,⟨false,false,0⟩,⟨false,false,0⟩,⟨false,false,0⟩,⟨false,false,0⟩] (by kernel_rfl) ?_; show vcOpsD _ _ _ (_ :: _) _ _)
    simp(maxSteps:=9^9)only[↓VX,VQ,seval,hdr,hfl,hd4]
    repeat'(first|intro _|apply And.intro)
    all_goals try omega
    refine VPure.of hlst ?_
    simp(maxSteps:=9^9)only[↓VX,VQ,seval]
    have j10B : mB b10 = some (.cells [.int .i64 (cnt (fun d => decide (d ≤ day)) (daysC h k pre)),.int .i64 ((daysC h k pre).length : Nat)]) := by rw [hB _ hl10.symm]; exact j10
    have hDn := daysC_length h3 k pre
    have hrl : (rowC h k x).length = (goL h k x).length := by unfold rowC; rw [List.length_map]
    have hsn := daysC_snoc h k pre x
    refine aloop (envCOk _ _ _) (fun i : Nat => ⟨[(3,.v (.eptr [.int .i64 h.ports,.int .i64 h.lost,.slice 5 (h.ships.map shipA),.slice 3 (h.letters.map letA),.slice 4 (h.reports.map repA)])),(4,.v (.eptr [.int .i64 k])),(5,.v (.eptr [.int .i64 day])),(8,.v (.eptr [.eptr (lookedL h 0 bm)])),(10,.v (.ptr b10 0)),(11,.loc 11 0),
      (40,.v (.slice 1 ((goL h k x).map (AV.int .i64)))),(41,.v (.int .i64 (goL h k x).length)),(42,.v (.int .i64 i))],[],[(11,fleetL fun i => x[i]!)],upd mB b10 (some (.cells [.int .i64 (cnt (fun d => decide (d ≤ day)) (daysC h k pre ++ (rowC h k x).take i)),.int .i64 ((daysC h k pre ++ (rowC h k x).take i).length : Nat)]))⟩)
     (fun i => i ≤ (goL h k x).length) (fun i => (goL h k x).length - i) 0 (fun _ => rfl) (by simp) (by (simp only [FE,↓FP,seval]); rw [List.take_zero,List.append_nil,← j10B,upd_self]; simp [lookedL,hd6,SV.av]) ?_
    intro i hi
    have hlt := fun (q : i < (goL h k x).length) => getD_any q
    have hadd := fun m is hm => add_c b10 (cnt (fun d => decide (d ≤ day)) (daysC h k pre ++ (rowC h k x).take i)) ((daysC h k pre ++ (rowC h k x).take i).length : Nat) is (by have := cnt_le (fun d => decide (d ≤ day)) (daysC h k pre ++ (rowC h k x).take i); simp only [List.length_append,List.length_take] at *; omega) (by simp only [List.length_append,List.length_take]; omega) m hm
    have hcs := cnt_snoc (fun d => decide (d ≤ day)) (daysC h k pre ++ (rowC h k x).take i) (dayC h k x ((goL h k x)[i]!))
    have htk : i < (goL h k x).length → (rowC h k x).take (i + 1) = (rowC h k x).take i ++ [dayC h k x ((goL h k x)[i]!)] := fun q => by
     rw [List.take_succ_eq_append_getElem (by rw [hrl]; exact q),getD_any q]
     simp only [rowC,List.getElem_map]
    generalize hD : daysC h k pre ++ (rowC h k x).take i = D at *
    simp only [lookedL,Int.natCast_zero]
    simp(maxSteps:=9^9)only[↓VX,VQ,seval,↓ixZ]
    repeat'(first|intro _|apply And.intro)
    all_goals try omega
    ·have hil : i < (goL h k x).length := by omega
     have hgm := goL_mem (h := h) (k := k) (x := x) (s := (goL h k x)[i]!) (by rw [getD_any hil]; exact List.getElem_mem hil)
     have hdy := hday x hx ((goL h k x)[i]!).toNat hgm.2
     change PCall _ _ _ (.int .i64 (dayC h k x ((goL h k x)[i]!))) at hdy
     rw [Int.toNat_of_nonneg hgm.1] at hdy
     (refine adraw (by first | exact envOk _ | exact envCOk _ _ _) mixed [⟨false,false,0⟩,⟨false,false,0⟩,⟨true,false,0⟩,⟨true,false,0⟩,⟨true,false,0⟩,⟨true,false,0⟩,⟨true,false,0⟩,⟨true,false,0⟩,⟨true,false,0⟩,⟨false,false,0⟩,⟨true,false,0⟩,⟨false,false,0⟩,⟨false,false,2⟩] (by kernel_rfl) ?_; show vcOpsD _ _ _ (_ :: _) _ _)
     simp(maxSteps:=9^9)only[↓VX,VQ,seval,hgl,hgt]
     repeat'(first|intro _|apply And.intro)
     all_goals try omega
     refine VPure.of hdy ?_
     simp(maxSteps:=9^9)only[↓VX,VQ,seval]
     repeat'(first|intro _|apply And.intro)
     refine ACall.told (hadd _ _ (upd_same _ _ _)) ?_
     rintro r m4 rfl
     simp(maxSteps:=9^9)only[↓VX,VQ,seval]
     repeat'(first|intro _|apply And.intro)
     all_goals try omega
     refine ⟨i + 1,by dsimp only; omega,by dsimp only; omega,?_⟩
     (simp only [FE,↓FP,seval])
     rw [upd_upd,htk hil,← List.append_assoc,hD,hcs]
     simp only [decide_eq_true_eq,List.length_append,List.length_cons,List.length_nil]
     exact ⟨rfl,rfl⟩
    ·have hil : i = (goL h k x).length := by omega
     have hDe : D = daysC h k (pre ++ [x]) := by rw [hsn,← hD,hil,← hrl,List.take_length]
     subst hDe
     simp(maxSteps:=9^9)only[↓VX,VQ,seval,hl10,hl10.symm,hbl]
     refine ⟨⟨fun k y hq hy => ?_⟩,.inl ?_⟩
     ·simp only [not_or] at hq
      rw [upd_ne _ _ hq.1,upd_ne _ _ hq.2,hB _ hq.1]; exact hy
     ·trivial
   ·obtain ⟨j3,j10⟩ := hJ
    exact ⟨by rw [hs l (.inl rfl)]; exact j3,by rw [hs b10 (.inr rfl)]; exact j10⟩
  have hdom : ∀ k y,m1 k = some y → k ≠ l ∧ k ≠ b10 := fun k y hy => ⟨ne_of_some hy hl0,ne_of_some hy hb10⟩
  refine ACall.mono (ht1 l _ _ _ hyok _ ?_ ?_ ?_ ?_) ?_ <;> (try dsimp only)
  ·obtain ⟨ls,k1,k2⟩ := hkn
   exact ⟨ls,k1,by simp [upd,nl,n10]; exact k2⟩
  ·rintro k (rfl | rfl)
   ·simp [upd]
   ·simp [upd,hl10.symm]
  ·rintro (e | e)
   ·exact nl e
   ·exact n10 e
  ·refine ⟨upd_same _ _ _,?_⟩
   simp [upd,hl10.symm,daysC,cnt]
  ·rintro r m' ⟨k1,k2,k3⟩
   have kk2 : ∀ k y,m k = some y → m' k = some y ∧ k ≠ l := by
    intro k y hy
    have hy1 := kk k y (fun h => h) hy
    obtain ⟨a1,a2⟩ := hdom k y hy1
    have a5 : k ≠ bm := ne_of_some hy hbm
    exact ⟨k1 k y (by rintro ((e | e) | e); exact a1 e; exact a2 e; exact a5 e) (by simp [upd,a1,a2]; exact hy1),a1⟩
   clear ht1 hyok
   rcases k3 with ⟨L,⟨j3,j10⟩,g⟩ | hF
   ·have s1 := come_same hh (given_same hh g) hkl hd.2
    simp(maxSteps:=9^9)only[↓VX,VQ,seval,j3,j10,hl10,hl10.symm]
    repeat'(first|intro _|apply And.intro)
    refine ACall.pure (hhow _ _) ?_
    rw [s1]
    simp(maxSteps:=9^9)only[↓VX,VQ,seval]
    refine ⟨m,fun k y hy => ?_,rfl⟩
    obtain ⟨e1,e2⟩ := kk2 k y hy
    simp only [if_neg e2]
    exact e1
   ·exact hF.elim
def besideC (h : RHarb) (b : Nat) (x : List Fate) (u : Int) : List (Int × Int) := (goL h b x).map fun s => (u,dayC h b x s)
def pairC (h : RHarb) (a b : Nat) (x : List Fate) : List (Int × Int) := (goL h a x).flatMap fun s => besideC h b x (dayC h a x s)
def pairsC (h : RHarb) (a b : Nat) (L : List (List Fate)) : List (Int × Int) := L.flatMap (pairC h a b)
theorem pairsC_snoc (h : RHarb) (a b : Nat) (L : List (List Fate)) (x : List Fate) : pairsC h a b (L ++ [x]) = pairsC h a b L ++ pairC h a b x := by simp [pairsC]
theorem pairsC_length {h : RHarb} (h3 : h.ships.length ≤ 3) (a b : Nat) (L : List (List Fate)) : (pairsC h a b L).length ≤ L.length * 9 := by
 unfold pairsC
 refine flatMap_le (Nat.le_refl _) fun x _ => ?_
 unfold pairC
 refine Nat.le_trans (flatMap_le (n := 3) (c := 3) (Nat.le_trans (goL_length h a x) h3) fun s _ => ?_) (by omega)
 unfold besideC
 rw [List.length_map]
 exact Nat.le_trans (goL_length h b x) h3
def besideE (h : RHarb) (b : Nat) (t : RTru) (u : Int) : List (Int × Int) := (t.by_[b]!).map fun s => (u,dayR h t.fleet s.toNat (h.letters[b]!).port)
def pairE (h : RHarb) (a b : Nat) (t : RTru) : List (Int × Int) := (t.by_[a]!).flatMap fun s => besideE h b t (dayR h t.fleet s.toNat (h.letters[a]!).port)
def befP (d : Int × Int) : Bool := befB d.1 d.2
theorem befRow_is (h : RHarb) (t : RTru) (a b x : Nat) : ∀ n,n ≤ (t.by_[b]!).length → befRow h t a b x n = cnt befP ((besideE h b t (dayR h t.fleet x (h.letters[a]!).port)).take n)
 | 0,_ => by simp [befRow,cnt]
 | n + 1,hn => by
  have ih := befRow_is h t a b x n (by omega)
  have hlt : n < (besideE h b t (dayR h t.fleet x (h.letters[a]!).port)).length := by unfold besideE; rw [List.length_map]; omega
  have e : (besideE h b t (dayR h t.fleet x (h.letters[a]!).port))[n] = (dayR h t.fleet x (h.letters[a]!).port,dayR h t.fleet ((t.by_[b]!)[n]!).toNat (h.letters[b]!).port) := by
   rw [getD_any (show n < (t.by_[b]!).length by omega)]
   simp only [besideE,List.getElem_map]
  rw [List.take_succ_eq_append_getElem hlt,cnt_snoc,e,← ih]
  show befRow h t a b x n + (if befB (dayR h t.fleet x (h.letters[a]!).port) (dayR h t.fleet ((t.by_[b]!)[n]!).toNat (h.letters[b]!).port) = true then 1 else 0) = if befB (dayR h t.fleet x (h.letters[a]!).port) (dayR h t.fleet ((t.by_[b]!)[n]!).toNat (h.letters[b]!).port) = true then befRow h t a b x n + 1 else befRow h t a b x n
  split <;> omega
theorem befIn_is (h : RHarb) (t : RTru) (a b : Nat) : ∀ n,n ≤ (t.by_[a]!).length → befIn h t a b n = cnt befP (((t.by_[a]!).take n).flatMap fun s => besideE h b t (dayR h t.fleet s.toNat (h.letters[a]!).port)) ∧
  ((((t.by_[a]!).take n).flatMap fun s => besideE h b t (dayR h t.fleet s.toNat (h.letters[a]!).port)).length : Int) = (n : Int) * ((t.by_[b]!).length : Int)
 | 0,_ => by simp [befIn,cnt]
 | n + 1,hn => by
  obtain ⟨i1,i2⟩ := befIn_is h t a b n (by omega)
  have hb : (besideE h b t (dayR h t.fleet ((t.by_[a]!)[n]!).toNat (h.letters[a]!).port)).length = (t.by_[b]!).length := by unfold besideE; rw [List.length_map]
  rw [List.take_succ_eq_append_getElem (by omega),List.flatMap_append,List.flatMap_singleton,cnt_app,List.length_append,← i1]
  have c1 : befIn h t a b (n + 1) = befIn h t a b n + befRow h t a b ((t.by_[a]!)[n]!).toNat (t.by_[b]!).length := rfl
  have g1 : (t.by_[a]!)[n] = (t.by_[a]!)[n]! := (getD_any (show n < (t.by_[a]!).length by omega)).symm
  rw [c1,g1,befRow_is h t a b _ _ (Nat.le_refl _),← hb,List.take_length,hb]
  refine ⟨rfl,?_⟩
  rw [Int.natCast_add,i2,Int.natCast_add,Int.add_mul]
  simp
theorem befTo_is (h : RHarb) (l : List RTru) (a b : Nat) : ∀ n,n ≤ l.length → befTo h l a b n = cnt befP ((l.take n).flatMap (pairE h a b)) ∧ pairsTo l a b n = (((l.take n).flatMap (pairE h a b)).length : Int)
 | 0,_ => by simp [befTo,pairsTo,cnt]
 | n + 1,hn => by
  obtain ⟨i1,i2⟩ := befTo_is h l a b n (by omega)
  obtain ⟨j1,j2⟩ := befIn_is h (l[n]!) a b ((l[n]!).by_[a]!).length (Nat.le_refl _)
  rw [List.take_length] at j1 j2
  have g1 : l[n] = l[n]! := (getD_any (show n < l.length by omega)).symm
  rw [List.take_succ_eq_append_getElem (by omega),List.flatMap_append,List.flatMap_singleton,cnt_app,List.length_append,← i1,g1]
  have c1 : befTo h l a b (n + 1) = befTo h l a b n + befIn h (l[n]!) a b ((l[n]!).by_[a]!).length := rfl
  have c2 : pairsTo l a b (n + 1) = pairsTo l a b n + (((l[n]!).by_[a]!).length : Int) * (((l[n]!).by_[b]!).length : Int) := rfl
  rw [c1,c2,i2,j1,← j2,Int.natCast_add]
  exact ⟨rfl,rfl⟩
theorem before_same {h : RHarb} (hh : HOk h) {L : List (List Fate)} (g : Same h L) {a b : Nat} (ha : a < h.letters.length) (hb : b < h.letters.length) :
  settledR (cnt (fun d : Int × Int => decide (d.1 < d.2)) (pairsC h a b L)) (pairsC h a b L).length = settledR (befTo h (truthsR h []) a b (truthsR h []).length) (pairsTo (truthsR h []) a b (truthsR h []).length) := by
 obtain ⟨e1,e2⟩ := befTo_is h (truthsR h []) a b _ (Nat.le_refl _)
 rw [e1,e2,List.take_length]
 have key : ∀ c : Bool,(∀ d ∈ pairsC h a b L,decide (d.1 < d.2) = c) ↔ ∀ d ∈ (truthsR h []).flatMap (pairE h a b),befP d = c := fun c => by
  have h1 : (∀ d ∈ (truthsR h []).flatMap (pairE h a b),befP d = c) ↔ ∀ t ∈ truthsR h [],∀ d ∈ pairE h a b t,befP d = c := by
   simp only [List.mem_flatMap]
   exact ⟨fun q t ht d hd => q d ⟨t,ht,hd⟩,fun q d ⟨t,ht,hd⟩ => q t ht d hd⟩
  have h2 : (∀ d ∈ pairsC h a b L,decide (d.1 < d.2) = c) ↔ ∀ x ∈ L,∀ d ∈ pairC h a b x,decide (d.1 < d.2) = c := by
   unfold pairsC
   simp only [List.mem_flatMap]
   exact ⟨fun q t ht d hd => q d ⟨t,ht,hd⟩,fun q d ⟨t,ht,hd⟩ => q t ht d hd⟩
  rw [h1,h2,same_mem g (fun t => ∀ d ∈ pairE h a b t,befP d = c)]
  have h3 : ∀ x ∈ L,(∀ d ∈ pairC h a b x,decide (d.1 < d.2) = c) ↔ ∀ d ∈ pairE h a b (truOf h [] x),befP d = c := fun x hx => by
   have t1 : (∀ d ∈ pairC h a b x,decide (d.1 < d.2) = c) ↔ ∀ s ∈ goL h a x,∀ s' ∈ goL h b x,decide (dayC h a x s < dayC h b x s') = c := by
    unfold pairC besideC
    simp only [List.mem_flatMap,List.mem_map]
    exact ⟨fun q s hs s' hs' => q (_,_) ⟨s,hs,s',hs',rfl⟩,fun q d ⟨s,hs,s',hs',e⟩ => by rw [← e]; exact q s hs s' hs'⟩
   have t2 : (∀ d ∈ pairE h a b (truOf h [] x),befP d = c) ↔ ∀ s ∈ goL h a x,∀ s' ∈ goL h b x,befB (dayR h x s.toNat (h.letters[a]!).port) (dayR h x s'.toNat (h.letters[b]!).port) = c := by
    unfold pairE besideE
    rw [true_by hh (g.fok x hx) ha,true_by hh (g.fok x hx) hb]
    simp only [List.mem_flatMap,List.mem_map]
    exact ⟨fun q s hs s' hs' => q (_,_) ⟨s,hs,s',hs',rfl⟩,fun q d ⟨s,hs,s',hs',e⟩ => by rw [← e]; exact q s hs s' hs'⟩
   rw [t1,t2]
   have : ∀ s ∈ goL h a x,∀ s' ∈ goL h b x,decide (dayC h a x s < dayC h b x s') = befB (dayR h x s.toNat (h.letters[a]!).port) (dayR h x s'.toNat (h.letters[b]!).port) := fun s hs s' hs' => by
    have k1 := (goL_mem hs).2
    have k2 := (goL_mem hs').2
    have l1 := dayR_le hh (g.fok x hx) k1 (h.letters[a]!).port
    have l2 := dayR_le hh (g.fok x hx) k2 (h.letters[b]!).port
    unfold dayC dA befB untilB
    rw [dayN_R hh (g.fok x hx) k1,dayN_R hh (g.fok x hx) k2,Bool.eq_iff_iff]
    generalize dayR h x s.toNat (h.letters[a]!).port = u at *
    generalize dayR h x s'.toNat (h.letters[b]!).port = v at *
    simp only [Bool.and_eq_true,decide_eq_true_eq,Bool.not_eq_true',Bool.and_eq_false_iff,decide_eq_false_iff_not]
    by_cases q1 : u < 0 <;> by_cases q2 : v < 0 <;> simp only [q1,q2,if_true,if_false] <;> omega
   exact ⟨fun q s hs s' hs' => by rw [← this s hs s' hs']; exact q s hs s' hs',fun q s hs s' hs' => by rw [this s hs s' hs']; exact q s hs s' hs'⟩
  exact ⟨fun q x hx => (h3 x hx).1 (q x hx),fun q x hx => (h3 x hx).2 (q x hx)⟩
 exact settled_lists (key true) (key false)
theorem befE_known {h : RHarb} {one other : Int} : (knownR h (befE h one other)).2 = enterE h h.letters.length (if one = other then 2 else 0) [one,other] := by
 refine known_enter (fun q => ?_) (fun q => ?_)
 ·unfold befE; simp only [indexE_bad q,if_neg q]; rw [if_neg (fun e => q e.1)]
 ·unfold befE
  rw [q,indexE_good,indexE_good]
  simp only [List.any_cons,List.any_nil,Bool.or_false]
  cases offP 0 ((h.letters.length : Int) - 1) one <;> cases offP 0 ((h.letters.length : Int) - 1) other <;> simp
theorem beforeR_err {h : RHarb} {one other : Int} : (beforeR h one other).2 = enterE h h.letters.length (if one = other then 2 else 0) [one,other] := by
 rw [← befE_known]
 unfold beforeR
 split
 ·rename_i q; exact q.symm
 ·rfl
theorem beforeR_bad {h : RHarb} {one other : Int} (e : (beforeR h one other).2 ≠ 0) : beforeR h one other = (0,(beforeR h one other).2) := by
 unfold beforeR at e ⊢
 split at e
 ·exact absurd rfl e
 ·rename_i q; rw [if_neg q]
theorem beforeR_good {h : RHarb} {one other : Int} (e : (beforeR h one other).2 = 0) : beforeR h one other = (settledR (befTo h (truthsR h []) one.toNat other.toNat (truthsR h []).length) (pairsTo (truthsR h []) one.toNat other.toNat (truthsR h []).length),0) := by
 unfold beforeR at e ⊢
 split at e
 ·rename_i q
  obtain ⟨k1,k2,k3⟩ := known_zero q
  rw [if_pos q,k2]
 ·rename_i q; exact absurd e q
theorem before_top (h : RHarb) (hs : hnamesFit h) (one other : Int) : PCall Tryz.prog 24 [harbA h,.int .i64 one,.int .i64 other] (.tuple [.int .i64 (beforeR h one other).1,.int .i64 (beforeR h one other).2]) := by
 intro m
 refine ACall.forget ?_
 have hen := fun w m => enter_c h hs h.letters.length w [one,other] (fun q => by have := (hok_check q).nl; omega) m
 have hE := beforeR_err (h := h) (one := one) (other := other)
 have hbad := beforeR_bad (h := h) (one := one) (other := other)
 have hgood := beforeR_good (h := h) (one := one) (other := other)
 have hhow := how_c
 generalize beforeR h one other = R at *
 simp only [harbA,harbL,ints,List.map_nil,List.map_cons] at hen ⊢
 (refine acall_intro (E := envC (modeAt [9,12,13] [11]) false []) (envCOk _ _ _) rfl Tryz.func24 rfl Tryz.call24 (by kernel_rfl) (by simp [Tryz.ntmps24]) ?_; simp only [Tryz.f24];  simp(maxSteps:=9^9)only[↓VX,VQ,seval])
 repeat'(first|intro _|apply And.intro)
 ·rw [if_pos (by assumption)] at hE
  refine ACall.told (hen 2 _) ?_
  rintro r m1 ⟨kk,⟨hz,rfl⟩ | ⟨hz,_⟩⟩
  ·rw [← hE] at hz
   have hb := hbad hz
   rw [← hE]
   generalize R.2 = e at *
   subst hb
   simp(maxSteps:=9^9)only[↓VX,VQ,seval,hz]
   exact ⟨m,fun b x hx => kk b x (fun h => h) hx,rfl⟩
  ·exact absurd (enter_zero hz).2.2.1 (by decide)
 rw [if_neg (by assumption)] at hE
 refine ACall.told (hen 0 _) ?_
 rintro r m1 ⟨kk,⟨hz,rfl⟩ | ⟨hz,bm,hbm,rfl,hkn⟩⟩
 ·rw [← hE] at hz
  have hb := hbad hz
  rw [← hE]
  generalize R.2 = e at *
  subst hb
  simp(maxSteps:=9^9)only[↓VX,VQ,seval,hz]
  exact ⟨m,fun b x hx => kk b x (fun h => h) hx,rfl⟩
 ·obtain ⟨z1,z2,z3,z4⟩ := enter_zero hz
  have hle := z2 one (by simp)
  have hle2 := z2 other (by simp)
  have hh := hok_check z1
  have h3 := hh.n
  have h4 := hh.nl
  have hR := hgood (by rw [hE]; exact hz)
  have hkl : one.toNat < h.letters.length := by omega
  have hkl2 : other.toNat < h.letters.length := by omega
  have hlk : one = ((one.toNat : Nat) : Int) := by omega
  have hlk2 : other = ((other.toNat : Nat) : Int) := by omega
  generalize one.toNat = k at *
  generalize other.toNat = k2 at *
  subst hlk
  subst hlk2
  have htr := truthsF_c h 0 bm
  have hbn : ∃ y,m1 bm = some y := by obtain ⟨ls,k1,k2⟩ := hkn; exact ⟨_,k2⟩
  obtain ⟨yb,hbn⟩ := hbn
  have ht1 := fun (l : Nat) (S : Nat → Prop) (J : List (List Fate) → Mem → Prop) (F : Mem → Prop) (hy : YTok h 0 bm l S J F) (m : Mem) => truths1_c h hh 0 (by decide) bm hy m
  have hlist := fun s (q : s < 2 ^ 62) => list_c s h.ships.length q (by omega)
  have hday := fun (k : Nat) (x : List Fate) (hx : FOk h x) (s : Nat) (q : s < h.ships.length) => day_c h hh 0 bm (fun i => x[i]!) s (h.letters[k]!).port q (hx.late _ (by rw [hx.n]; exact q))
  have hp : (2 : Nat) ^ h.ships.length ≤ 2 ^ 3 := Nat.pow_le_pow_right (by decide) h3
  simp only [lookedL,Int.natCast_zero,ints,fleetA] at htr hlist hday ⊢
  subst hR
  clear hen hbad hgood
  simp(maxSteps:=9^9)only[↓VX,VQ,seval]
  intro b11 hb11
  have n11 := ne_of_some hbn hb11
  (refine ACall.pure (htr) ?_; try simp(maxSteps:=9^9)only[↓VX,VQ,seval])
  refine ARange.freeze 9 ?_
  simp(maxSteps:=9^9)only[↓VX,VQ,seval]
  refine arange rfl (f := 90) (first := []) (caps := [.eptr [.eptr (lookedL h 0 bm)]]) (by simp(maxSteps:=9^9)only[↓VX,VQ,seval,lookedL,Int.natCast_zero]) ?_
  intro l hl
  have hl11 : l ≠ b11 := by rintro rfl; simp [upd] at hl
  have hl0 : m1 l = none := by simpa [upd,hl11] using hl
  have nl := ne_of_some hbn hl0
  generalize hR : LoopA.mk _ _ _ _ _ = R
  have hyok : YTok h 0 bm l (fun k => k = l ∨ k = b11) (fun pre m2 => m2 l = some (.loop .ready none R) ∧ m2 b11 = some (.cells [.int .i64 (cnt (fun d : Int × Int => decide (d.1 < d.2)) (pairsC h k k2 pre)),.int .i64 ((pairsC h k k2 pre).length : Nat)])) (fun _ => False) := by
   refine ⟨fun pre x m2 hn hx hin ok hk hJ => ?_,fun pre m2 m3 hJ hs => ?_⟩
   ·obtain ⟨j3,j11⟩ := hJ
    subst hR
    refine ayield (E := envC (modeAt [9,12,13] [11]) true []) (envCOk _ _ _) rfl j3 rfl (by rfl) (by rfl) (by rfl) ?_
    have hfl := nL_length (loadK h 0 x h.reports.length) 4
    have hff := nL_flat (loadK h 0 x h.reports.length) 4
    have hdr := nL_drop (f := loadK h 0 x h.reports.length) (show k < 4 by omega)
    have hdr2 := nL_drop (f := loadK h 0 x h.reports.length) (show k2 < 4 by omega)
    have hat := load_at (h := h) (x := x) hkl
    have hat2 := load_at (h := h) (x := x) hkl2
    have hd4 : List.drop 4 [AV.int .i64 0,AV.int .i64 0,AV.int .i64 0,AV.int .i64 0] = [] := rfl
    have hd6 : List.drop 6 [AV.int .i64 0,AV.int .i64 0,AV.int .i64 0,AV.int .i64 0,AV.int .i64 0,AV.int .i64 0] = [] := rfl
    have hgl := fleetL_length fun i => x[i]!
    have hgf := fleetL_flat fun i => x[i]!
    have hgt := fleetL_take fun i => x[i]!
    have hv1 := setOf_lt (loadB h (fun i => x[i]!) k 0 h.reports.length) h.ships.length
    have hv2 := setOf_lt (loadB h (fun i => x[i]!) k2 0 h.reports.length) h.ships.length
    have hlst := hlist (setOf (loadB h (fun i => x[i]!) k 0 h.reports.length) h.ships.length) (by omega)
    have hlst2 := hlist (setOf (loadB h (fun i => x[i]!) k2 0 h.reports.length) h.ships.length) (by omega)
    change PCall _ _ _ (.slice 1 ((goL h k x).map (AV.int .i64))) at hlst
    change PCall _ _ _ (.slice 1 ((goL h k2 x).map (AV.int .i64))) at hlst2
    have hgn := goL_length h k x
    have hgn2 := goL_length h k2 x
    rw [hat] at hdr
    rw [hat2] at hdr2
    simp(maxSteps:=9^9)only[↓VX,VQ,seval,j3,loadsV,keyA,fleetA,hfl,hff,hd4,hgl,hgf,hd6]
    generalize hmB : upd m2 l (some _) = mB
    have hbl := congrFun hmB l
    rw [upd_same] at hbl
    have hbl := hbl.symm
    have hB : ∀ k,k ≠ l → mB k = m2 k := fun k hk => by rw [← hmB,upd_ne _ _ hk]
    (refine adraw (by first | exact envOk _ | exact envCOk _ _ _) mixed [⟨false,false,0⟩,⟨false,false,0⟩,⟨false,false,0⟩,⟨false,false,0⟩,⟨false,false,0⟩,⟨false,false,0⟩,⟨false,false,0⟩,⟨false,false,0⟩,⟨false,false,0⟩] (by kernel_rfl) ?_; show vcOpsD _ _ _ (_ :: _) _ _)
    simp(maxSteps:=9^9)only[↓VX,VQ,seval,hdr,hfl,hd4]
    repeat'(first|intro _|apply And.intro)
    all_goals try omega
    refine VPure.of hlst ?_
    simp(maxSteps:=9^9)only[↓VX,VQ,seval]
    have jB : mB b11 = some (.cells [.int .i64 (cnt (fun d : Int × Int => decide (d.1 < d.2)) (pairsC h k k2 pre)),.int .i64 ((pairsC h k k2 pre).length : Nat)]) := by rw [hB _ hl11.symm]; exact j11
    have hDn := pairsC_length h3 k k2 pre
    have hsn := pairsC_snoc h k k2 pre x
    -- the outer loop
    refine aloop (envCOk _ _ _) (fun i : Nat => ⟨[(3,.v (.eptr [.int .i64 h.ports,.int .i64 h.lost,.slice 5 (h.ships.map shipA),.slice 3 (h.letters.map letA),.slice 4 (h.reports.map repA)])),(4,.v (.eptr [.int .i64 k])),(5,.v (.eptr [.int .i64 k2])),(9,.v (.eptr [.eptr (lookedL h 0 bm)])),(11,.v (.ptr b11 0)),(12,.loc 12 0),(13,.loc 13 0),
      (47,.v (.slice 1 ((goL h k x).map (AV.int .i64)))),(48,.v (.int .i64 (goL h k x).length)),(49,.v (.int .i64 i))],[],[(12,fleetL fun i => x[i]!),(13,nL (loadK h 0 x h.reports.length) 4)],
      upd mB b11 (some (.cells [.int .i64 (cnt (fun d : Int × Int => decide (d.1 < d.2)) (pairsC h k k2 pre ++ ((goL h k x).take i).flatMap fun s => besideC h k2 x (dayC h k x s))),.int .i64 ((pairsC h k k2 pre ++ ((goL h k x).take i).flatMap fun s => besideC h k2 x (dayC h k x s)).length : Nat)]))⟩)
     (fun i => i ≤ (goL h k x).length) (fun i => (goL h k x).length - i) 0 (fun _ => rfl) (by simp) (by (simp only [FE,↓FP,seval]); rw [List.take_zero,List.flatMap_nil,List.append_nil,← jB,upd_self]; simp [lookedL,hd6,hd4,SV.av]) ?_
    intro i hi
    have htk : i < (goL h k x).length → (((goL h k x).take (i + 1)).flatMap fun s => besideC h k2 x (dayC h k x s)) = (((goL h k x).take i).flatMap fun s => besideC h k2 x (dayC h k x s)) ++ besideC h k2 x (dayC h k x ((goL h k x)[i]!)) := fun q => by
     rw [List.take_succ_eq_append_getElem q,List.flatMap_append,List.flatMap_singleton,getD_any q]
    have hDi : (((goL h k x).take i).flatMap fun s => besideC h k2 x (dayC h k x s)).length ≤ 3 * 3 := flatMap_le (by rw [List.length_take]; omega) fun s _ => by unfold besideC; rw [List.length_map]; omega
    simp only [lookedL,Int.natCast_zero]
    simp(maxSteps:=9^9)only[↓VX,VQ,seval,↓ixZ]
    repeat'(first|intro _|apply And.intro)
    all_goals try omega
    ·have hil : i < (goL h k x).length := by omega
     have hgm := goL_mem (h := h) (k := k) (x := x) (s := (goL h k x)[i]!) (by rw [getD_any hil]; exact List.getElem_mem hil)
     have hdy := hday k x hx ((goL h k x)[i]!).toNat hgm.2
     change PCall _ _ _ (.int .i64 (dayC h k x ((goL h k x)[i]!))) at hdy
     rw [Int.toNat_of_nonneg hgm.1] at hdy
     have htk := htk hil
     generalize hU : dayC h k x ((goL h k x)[i]!) = U at *
     (refine adraw (by first | exact envOk _ | exact envCOk _ _ _) mixed [⟨false,false,0⟩,⟨false,false,0⟩,⟨false,false,0⟩,⟨false,false,0⟩,⟨false,false,0⟩,⟨false,false,0⟩,⟨false,false,0⟩,⟨false,false,0⟩,⟨false,false,0⟩,⟨false,false,0⟩,⟨false,false,0⟩] (by kernel_rfl) ?_; show vcOpsD _ _ _ (_ :: _) _ _)
     simp(maxSteps:=9^9)only[↓VX,VQ,seval,hgl,hgt]
     repeat'(first|intro _|apply And.intro)
     all_goals try omega
     refine VPure.of hdy ?_
     simp(maxSteps:=9^9)only[↓VX,VQ,seval]
     (refine adraw (by first | exact envOk _ | exact envCOk _ _ _) mixed [⟨false,false,0⟩,⟨false,false,0⟩,⟨false,false,0⟩,⟨false,false,0⟩,⟨false,false,0⟩,⟨false,false,0⟩,⟨false,false,0⟩,⟨false,false,0⟩,⟨false,false,0⟩] (by kernel_rfl) ?_; show vcOpsD _ _ _ (_ :: _) _ _)
     simp(maxSteps:=9^9)only[↓VX,VQ,seval,hdr2,hfl,hd4]
     repeat'(first|intro _|apply And.intro)
     all_goals try omega
     refine VPure.of hlst2 ?_
     simp(maxSteps:=9^9)only[↓VX,VQ,seval]
     have hrl : (besideC h k2 x U).length = (goL h k2 x).length := by unfold besideC; rw [List.length_map]
     generalize hD0 : pairsC h k k2 pre ++ ((goL h k x).take i).flatMap (fun s => besideC h k2 x (dayC h k x s)) = D0 at *
     have hD0n : D0.length ≤ pre.length * 9 + 9 := by rw [← hD0,List.length_append]; omega
     refine aloop (envCOk _ _ _) (fun j : Nat => ⟨[(3,.v (.eptr [.int .i64 h.ports,.int .i64 h.lost,.slice 5 (h.ships.map shipA),.slice 3 (h.letters.map letA),.slice 4 (h.reports.map repA)])),(4,.v (.eptr [.int .i64 k])),(5,.v (.eptr [.int .i64 k2])),(9,.v (.eptr [.eptr (lookedL h 0 bm)])),(11,.v (.ptr b11 0)),(12,.loc 12 0),(13,.loc 13 0),(16,.v (.int .i64 U)),
       (47,.v (.slice 1 ((goL h k x).map (AV.int .i64)))),(48,.v (.int .i64 (goL h k x).length)),(49,.v (.int .i64 i)),(69,.v (.slice 1 ((goL h k2 x).map (AV.int .i64)))),(70,.v (.int .i64 (goL h k2 x).length)),(71,.v (.int .i64 j))],[],[(12,fleetL fun i => x[i]!),(13,nL (loadK h 0 x h.reports.length) 4)],
       upd mB b11 (some (.cells [.int .i64 (cnt (fun d : Int × Int => decide (d.1 < d.2)) (D0 ++ (besideC h k2 x U).take j)),.int .i64 ((D0 ++ (besideC h k2 x U).take j).length : Nat)]))⟩)
      (fun j => j ≤ (goL h k2 x).length) (fun j => (goL h k2 x).length - j) 0 (fun _ => rfl) (by simp) (by (simp only [FE,↓FP,seval]); rw [List.take_zero,List.append_nil]; simp [lookedL,SV.av]) ?_
     intro j hj
     have hadd := fun m is hm => add_c b11 (cnt (fun d : Int × Int => decide (d.1 < d.2)) (D0 ++ (besideC h k2 x U).take j)) ((D0 ++ (besideC h k2 x U).take j).length : Nat) is (by have := cnt_le (fun d : Int × Int => decide (d.1 < d.2)) (D0 ++ (besideC h k2 x U).take j); simp only [List.length_append,List.length_take] at *; omega) (by simp only [List.length_append,List.length_take]; omega) m hm
     have hcs := cnt_snoc (fun d : Int × Int => decide (d.1 < d.2)) (D0 ++ (besideC h k2 x U).take j) (U,dayC h k2 x ((goL h k2 x)[j]!))
     have htj : j < (goL h k2 x).length → (besideC h k2 x U).take (j + 1) = (besideC h k2 x U).take j ++ [(U,dayC h k2 x ((goL h k2 x)[j]!))] := fun q => by
      rw [List.take_succ_eq_append_getElem (by rw [hrl]; exact q),getD_any q]
      simp only [besideC,List.getElem_map]
     generalize hD : D0 ++ (besideC h k2 x U).take j = D at *
     simp only [lookedL,Int.natCast_zero]
     simp(maxSteps:=9^9)only[↓VX,VQ,seval,↓ixZ]
     repeat'(first|intro _|apply And.intro)
     all_goals try omega
     ·have hjl : j < (goL h k2 x).length := by omega
      have hgm2 := goL_mem (h := h) (k := k2) (x := x) (s := (goL h k2 x)[j]!) (by rw [getD_any hjl]; exact List.getElem_mem hjl)
      have hdy2 := hday k2 x hx ((goL h k2 x)[j]!).toNat hgm2.2
      change PCall _ _ _ (.int .i64 (dayC h k2 x ((goL h k2 x)[j]!))) at hdy2
      rw [Int.toNat_of_nonneg hgm2.1] at hdy2
      (refine adraw (by first | exact envOk _ | exact envCOk _ _ _) mixed [⟨true,false,0⟩,⟨false,false,0⟩,⟨false,false,0⟩,⟨true,false,0⟩,⟨true,false,0⟩,⟨true,false,0⟩,⟨true,false,0⟩,⟨true,false,0⟩,⟨true,false,0⟩,⟨true,false,0⟩,⟨false,false,0⟩,⟨false,false,0⟩,⟨false,false,2⟩] (by kernel_rfl) ?_; show vcOpsD _ _ _ (_ :: _) _ _)
      simp(maxSteps:=9^9)only[↓VX,VQ,seval,hgl,hgt]
      repeat'(first|intro _|apply And.intro)
      all_goals try omega
      refine VPure.of hdy2 ?_
      simp(maxSteps:=9^9)only[↓VX,VQ,seval]
      repeat'(first|intro _|apply And.intro)
      refine ACall.told (hadd _ _ (upd_same _ _ _)) ?_
      rintro r m4 rfl
      simp(maxSteps:=9^9)only[↓VX,VQ,seval]
      repeat'(first|intro _|apply And.intro)
      all_goals try omega
      refine ⟨j + 1,by dsimp only; omega,by dsimp only; omega,?_⟩
      (simp only [FE,↓FP,seval])
      rw [upd_upd,htj hjl,← List.append_assoc,hD,hcs]
      simp only [decide_eq_true_eq,List.length_append,List.length_cons,List.length_nil]
      exact ⟨rfl,rfl⟩
     ·have hjl : j = (goL h k2 x).length := by omega
      have hDe : D = pairsC h k k2 pre ++ (((goL h k x).take (i + 1)).flatMap fun s => besideC h k2 x (dayC h k x s)) := by rw [← hD,hjl,← hrl,List.take_length,htk,← List.append_assoc,hD0]
      subst hDe
      refine ⟨i + 1,by dsimp only; omega,by dsimp only; omega,?_⟩
      (simp only [FE,↓FP,seval])
      simp [lookedL]
    ·have hil : i = (goL h k x).length := by omega
     have hDe : (pairsC h k k2 pre ++ ((goL h k x).take i).flatMap fun s => besideC h k2 x (dayC h k x s)) = pairsC h k k2 (pre ++ [x]) := by rw [hsn,hil,List.take_length]; rfl
     rw [hDe]
     simp(maxSteps:=9^9)only[↓VX,VQ,seval,hl11,hl11.symm,hbl]
     refine ⟨⟨fun k y hq hy => ?_⟩,.inl ?_⟩
     ·simp only [not_or] at hq
      rw [upd_ne _ _ hq.1,upd_ne _ _ hq.2,hB _ hq.1]; exact hy
     ·trivial
   ·obtain ⟨j3,j11⟩ := hJ
    exact ⟨by rw [hs l (.inl rfl)]; exact j3,by rw [hs b11 (.inr rfl)]; exact j11⟩
  have hdom : ∀ k y,m1 k = some y → k ≠ l ∧ k ≠ b11 := fun k y hy => ⟨ne_of_some hy hl0,ne_of_some hy hb11⟩
  refine ACall.mono (ht1 l _ _ _ hyok _ ?_ ?_ ?_ ?_) ?_ <;> (try dsimp only)
  ·obtain ⟨ls,k1,k2⟩ := hkn
   exact ⟨ls,k1,by simp [upd,nl,n11]; exact k2⟩
  ·rintro k (rfl | rfl)
   ·simp [upd]
   ·simp [upd,hl11.symm]
  ·rintro (e | e)
   ·exact nl e
   ·exact n11 e
  ·refine ⟨upd_same _ _ _,?_⟩
   simp [upd,hl11.symm,pairsC,cnt]
  ·rintro r m' ⟨k1,k2',k3⟩
   have kk2 : ∀ k y,m k = some y → m' k = some y ∧ k ≠ l := by
    intro k y hy
    have hy1 := kk k y (fun h => h) hy
    obtain ⟨a1,a2⟩ := hdom k y hy1
    have a5 : k ≠ bm := ne_of_some hy hbm
    exact ⟨k1 k y (by rintro ((e | e) | e); exact a1 e; exact a2 e; exact a5 e) (by simp [upd,a1,a2]; exact hy1),a1⟩
   clear ht1 hyok
   rcases k3 with ⟨L,⟨j3,j11⟩,g⟩ | hF
   ·have s1 := before_same hh (given_same hh g) hkl hkl2
    simp(maxSteps:=9^9)only[↓VX,VQ,seval,j3,j11,hl11,hl11.symm]
    repeat'(first|intro _|apply And.intro)
    refine ACall.pure (hhow _ _) ?_
    rw [s1]
    simp(maxSteps:=9^9)only[↓VX,VQ,seval]
    refine ⟨m,fun k y hy => ?_,rfl⟩
    obtain ⟨e1,e2⟩ := kk2 k y hy
    simp only [if_neg e2]
    exact e1
   ·exact hF.elim
def lexC : List Int → List Int → Int
 | [],[] => 0
 | [],_ :: _ => -1
 | _ :: _,[] => 1
 | x :: l,y :: l' => if x < y then -1 else if y < x then 1 else lexC l l'
theorem isnan_c (a : Int) : PCall Tryz.prog 127 [.int .i64 a] (.bool false) := by
 intro m
 (refine acall_intro (E := env fun _ => .imm) (envOk _) rfl Tryz.func127 rfl Tryz.call127 (by kernel_rfl) (by simp [Tryz.ntmps127]) ?_; simp only [Tryz.f127];  simp(maxSteps:=9^9)only[↓VX,VQ,seval])
 try simp
theorem cmp_c (a b : Int) : PCall Tryz.prog 102 [.int .i64 a,.int .i64 b] (.int .i64 (if a < b then -1 else if b < a then 1 else 0)) := by
 intro m
 have h1 := isnan_c a
 have h2 := isnan_c b
 (refine acall_intro (E := env fun _ => .imm) (envOk _) rfl Tryz.func102 rfl Tryz.call102 (by kernel_rfl) (by simp [Tryz.ntmps102]) ?_; simp only [Tryz.f102];  simp(maxSteps:=9^9)only[↓VX,VQ,seval])
 ((refine ACall.pure (h1) ?_; try simp(maxSteps:=9^9)only[↓VX,VQ,seval]); try simp(maxSteps:=9^9)only[↓VX,VQ,seval,GL])
 ((refine ACall.pure (h2) ?_; try simp(maxSteps:=9^9)only[↓VX,VQ,seval]); try simp(maxSteps:=9^9)only[↓VX,VQ,seval,GL])
 repeat'(first|intro _|apply And.intro)
 ·rw [if_pos (by assumption)]
 ·rw [if_neg (by assumption),if_pos (by assumption)]
 ·rw [if_neg (by assumption),if_neg (by assumption)]
theorem compare_c (a b : List Int) : PCall Tryz.prog 64 [ints a,ints b] (.int .i64 (lexC a b)) := by
 intro m
 have hc := cmp_c
 simp only [ints]
 (refine acall_len Tryz.call64 fun hlen => ?_; refine acall_intro (E := env fun _ => .imm) (envOk _) rfl Tryz.func64 rfl Tryz.call64 (by kernel_rfl) (by simp [Tryz.ntmps64]) ?_; simp only [Tryz.f64];  simp(maxSteps:=9^9)only[↓VX,VQ,seval])
 simp only [lenOk_cons,lenOk_nil,List.length_map,and_true,maxLen_eq] at hlen
 obtain ⟨hla,hlb⟩ := hlen
 repeat'(first|intro _|apply And.intro)
 refine aloop (envOk _) (fun k : Nat => ⟨[(0,.v (.slice 1 (a.map (AV.int .i64)))),(1,.v (.slice 1 (b.map (AV.int .i64)))),(9,.v (.slice 1 (a.map (AV.int .i64)))),(10,.v (.int .i64 a.length)),(11,.v (.int .i64 k))],[],[],m⟩)
  (fun k => (k ≤ a.length ∧ k ≤ b.length) ∧ lexC (a.drop k) (b.drop k) = lexC a b) (fun k => a.length - k) 0 (fun _ => rfl) (by simp) (by (simp only [FE,↓FP,seval]); try simp) ?_
 rintro k ⟨⟨hk1,hk2⟩,hk⟩
 simp(maxSteps:=9^9)only[↓VX,VQ,seval,↓ixZ]
 repeat'(first|intro _|apply And.intro)
 all_goals try omega
 ·have h1 : k < a.length := by omega
  rw [List.drop_eq_getElem_cons h1,List.drop_eq_nil_of_le (show b.length ≤ k by omega)] at hk
  rw [← hk]; rfl
 ·have h1 : k < a.length := by omega
  have h2 : k < b.length := by omega
  rw [List.drop_eq_getElem_cons h1,List.drop_eq_getElem_cons h2] at hk
  have hc' := hc a[k]! b[k]!
  rw [getD_any h1,getD_any h2] at hc' ⊢
  have hstep : lexC (a[k] :: a.drop (k + 1)) (b[k] :: b.drop (k + 1)) = if a[k] < b[k] then -1 else if b[k] < a[k] then 1 else lexC (a.drop (k + 1)) (b.drop (k + 1)) := rfl
  rw [hstep] at hk
  refine ACall.pure hc' ?_
  simp(maxSteps:=9^9)only[↓VX,VQ,seval]
  repeat'(first|intro _|apply And.intro)
  all_goals try omega
  ·by_cases q1 : a[k] < b[k]
   ·rw [if_pos q1] at hk ⊢; rw [← hk]
   ·rw [if_neg q1] at hk ⊢
    by_cases q2 : b[k] < a[k]
    ·rw [if_pos q2] at hk ⊢; rw [← hk]
    ·rename_i hne
     rw [if_neg q1,if_neg q2] at hne
     exact absurd rfl hne
  ·rename_i hne
   have q1 : ¬ a[k] < b[k] := fun q => hne (by rw [if_pos q]; decide)
   have q2 : ¬ b[k] < a[k] := fun q => hne (by rw [if_neg q1,if_pos q]; decide)
   rw [if_neg q1,if_neg q2] at hk
   refine ⟨k + 1,⟨⟨by omega,by omega⟩,hk⟩,by dsimp only; omega,?_⟩
   (simp only [FE,↓FP,seval])
   simp
 ·have e : k = a.length := by omega
  have h2 : k < b.length := by omega
  rw [List.drop_eq_nil_of_le (show a.length ≤ k by omega),List.drop_eq_getElem_cons h2] at hk
  rw [← hk]; rfl
 ·rw [List.drop_eq_nil_of_le (show a.length ≤ k by omega),List.drop_eq_nil_of_le (show b.length ≤ k by omega)] at hk
  rw [← hk]; rfl
def ordB (l b : List Int) : Bool := decide (b.length < l.length) || (decide (l.length = b.length) && decide (0 < lexC l b))
def allChoices (n : Nat) : List (List Int) := (List.range' 0 (n + 1)).flatMap (choicesL n)
def bestTo (h : RHarb) : Nat → Option (List Int)
 | 0 => none
 | k + 1 => match bestTo h k with
  | none => if anyT h k = true then some (listTo k h.reports.length) else none
  | some b => if ordB (listTo k h.reports.length) b = true then some b else if anyT h k = true then some (listTo k h.reports.length) else some b
def choicesOk (n : Nat) : Bool := ((allChoices n).all fun c => (List.range (2 ^ n)).any fun s => listTo s n == c) && ((List.range (2 ^ n)).all fun s => (allChoices n).contains (listTo s n)) &&
 ((List.range (2 ^ n)).all fun s => (List.range (2 ^ n)).all fun t => ordB (listTo s n) (listTo t n) == decide ((allChoices n).idxOf (listTo t n) < (allChoices n).idxOf (listTo s n)))
theorem choices_ok0 : choicesOk 0 = true := by decide +kernel
theorem choices_ok1 : choicesOk 1 = true := by decide +kernel
theorem choices_ok2 : choicesOk 2 = true := by decide +kernel
theorem choices_ok3 : choicesOk 3 = true := by decide +kernel
theorem choices_ok4 : choicesOk 4 = true := by decide +kernel
theorem choices_ok5 : choicesOk 5 = true := by decide +kernel
theorem choices_ok {n : Nat} (hn : n < 6) : choicesOk n = true := by
 have : n = 0 ∨ n = 1 ∨ n = 2 ∨ n = 3 ∨ n = 4 ∨ n = 5 := by omega
 rcases this with rfl | rfl | rfl | rfl | rfl | rfl
 ·exact choices_ok0
 ·exact choices_ok1
 ·exact choices_ok2
 ·exact choices_ok3
 ·exact choices_ok4
 ·exact choices_ok5
structure Ranks (n : Nat) : Prop where
 a : ∀ c ∈ allChoices n,∃ s,s < 2 ^ n ∧ c = listTo s n
 b : ∀ s,s < 2 ^ n → listTo s n ∈ allChoices n
 c : ∀ s t,s < 2 ^ n → t < 2 ^ n → ordB (listTo s n) (listTo t n) = decide ((allChoices n).idxOf (listTo t n) < (allChoices n).idxOf (listTo s n))
theorem ranks {n : Nat} (hn : n < 6) : Ranks n := by
 have h := choices_ok hn
 unfold choicesOk at h
 simp only [Bool.and_eq_true,List.all_eq_true,List.any_eq_true,List.mem_range,beq_iff_eq,List.contains_iff_mem] at h
 obtain ⟨⟨h1,h2⟩,h3⟩ := h
 refine ⟨fun c hc => ?_,h2,fun s t hs ht => h3 s hs t ht⟩
 obtain ⟨s,hs,e⟩ := h1 c hc
 exact ⟨s,hs,e.symm⟩
theorem idx_ne {x b : List Int} (l : List (List Int)) (h : x ≠ b) : (x :: l).idxOf b = l.idxOf b + 1 := by
 rw [List.idxOf_cons,show (x == b) = false from beq_eq_false_iff_ne.2 h]; rfl
theorem find_min {p : List Int → Bool} {b : List Int} : ∀ {l : List (List Int)},b ∈ l → p b = true → (∀ c ∈ l,p c = true → l.idxOf b ≤ l.idxOf c) → l.find? p = some b
 | [],hb,_,_ => by simp at hb
 | x :: l,hb,hp,hm => by
  by_cases q : p x = true
  ·rw [List.find?_cons_of_pos q]
   have := hm x (by simp) q
   rw [List.idxOf_cons_self] at this
   by_cases e : x = b
   ·rw [e]
   ·rw [idx_ne _ e] at this; omega
  ·have hne : x ≠ b := fun e => q (by rw [e]; exact hp)
   rw [List.find?_cons_of_neg q]
   refine find_min (by rcases List.mem_cons.1 hb with e | e; exact absurd e.symm hne; exact e) hp fun c hc hpc => ?_
   have hcx : x ≠ c := fun e => q (by rw [e]; exact hpc)
   have := hm c (by simp [hc]) hpc
   rw [idx_ne _ hne,idx_ne _ hcx] at this
   omega
theorem best_is (h : RHarb) (hr : h.reports.length < 6) : ∀ k,k ≤ 2 ^ h.reports.length → match bestTo h k with
  | none => ∀ s,s < k → anyT h s = false
  | some b => ∃ s,s < k ∧ b = listTo s h.reports.length ∧ anyT h s = true ∧ ∀ t,t < k → anyT h t = true → (allChoices h.reports.length).idxOf b ≤ (allChoices h.reports.length).idxOf (listTo t h.reports.length)
 | 0,_ => by simp [bestTo]
 | k + 1,hk => by
  have R := ranks hr
  have ih := best_is h hr k (by omega)
  unfold bestTo
  cases hb : bestTo h k with
  | none =>
   rw [hb] at ih
   simp only at ih ⊢
   by_cases q : anyT h k = true
   ·rw [if_pos q]
    refine ⟨k,by omega,rfl,q,fun t ht hq => ?_⟩
    by_cases e : t = k
    ·rw [e]; exact Nat.le_refl _
    ·rw [ih t (by omega)] at hq; cases hq
   ·rw [if_neg q]
    intro s hs
    by_cases e : s = k
    ·rw [e]; exact Bool.eq_false_iff.2 q
    ·exact ih s (by omega)
  | some b =>
   rw [hb] at ih
   simp only at ih ⊢
   obtain ⟨s,hs,rfl,ho,hm⟩ := ih
   have hc := R.c k s (by omega) (by omega)
   by_cases q : ordB (listTo k h.reports.length) (listTo s h.reports.length) = true
   ·rw [if_pos q]
    rw [q] at hc
    have hc := of_decide_eq_true hc.symm
    refine ⟨s,by omega,rfl,ho,fun t ht hq => ?_⟩
    by_cases e : t = k
    ·rw [e]; omega
    ·exact hm t (by omega) hq
   ·rw [if_neg q]
    have hc : ¬ (allChoices h.reports.length).idxOf (listTo s h.reports.length) < (allChoices h.reports.length).idxOf (listTo k h.reports.length) := by
     rw [Bool.not_eq_true] at q
     rw [q] at hc
     exact of_decide_eq_false hc.symm
    by_cases q2 : anyT h k = true
    ·rw [if_pos q2]
     refine ⟨k,by omega,rfl,q2,fun t ht hq => ?_⟩
     by_cases e : t = k
     ·rw [e]; exact Nat.le_refl _
     ·have := hm t (by omega) hq; omega
    ·rw [if_neg q2]
     refine ⟨s,by omega,rfl,ho,fun t ht hq => ?_⟩
     by_cases e : t = k
     ·rw [e] at hq; exact absurd hq q2
     ·exact hm t (by omega) hq
theorem wrong_same {h : RHarb} (hh : HOk h) : bestTo h (2 ^ h.reports.length) = wrongFrom h 0 := by
 have hr : h.reports.length < 6 := by have := hh.nr; omega
 have R := ranks hr
 have hb := best_is h hr _ (Nat.le_refl _)
 have ha : ∀ s,anyT h s = okT h (listTo s h.reports.length) := fun s => any_truth hh s
 unfold wrongFrom
 change _ = (allChoices h.reports.length).find? (okT h)
 cases hB : bestTo h (2 ^ h.reports.length) with
 | none =>
  rw [hB] at hb
  simp only at hb
  symm
  rw [List.find?_eq_none]
  intro c hc
  obtain ⟨s,hs,rfl⟩ := R.a c hc
  rw [← ha,hb s hs]; simp
 | some b =>
  rw [hB] at hb
  simp only at hb
  obtain ⟨s,hs,rfl,ho,hm⟩ := hb
  symm
  refine find_min (R.b s hs) (by rw [← ha]; exact ho) fun c hc hq => ?_
  obtain ⟨t,ht,rfl⟩ := R.a c hc
  exact hm t ht (by rw [ha]; exact hq)
def fateD (h : RHall) (p : List (List Int)) : Int × Int :=
 if enterD h p ≠ 0 then (0,enterD h p)
 else if ((List.range h.cus.length).any fun c => decide ((h.cus[c]!).ship < ((endsR h p)[c]!).1)) = true then (2,0)
 else if ((List.range h.cus.length).any fun c => decide ((h.cus[c]!).ship < ((endsR h p)[c]!).2)) = true then (0,0) else (1,0)
def lateTo (h : RHall) (l : List (Int × Int)) : Nat → Int
 | 0 => -1
 | n + 1 => if (h.cus[n]!).ship < (l[n]!).2 ∧ (lateTo h l n < 0 ∨ (h.cus[n]!).ship < (h.cus[(lateTo h l n).toNat]!).ship) then (n : Int) else lateTo h l n
def lateR (h : RHall) (p : List (List Int)) : Int × Int :=
 if enterD h p ≠ 0 then (0,enterD h p) else if lateTo h (endsR h p) h.cus.length < 0 then (0,9) else (lateTo h (endsR h p) h.cus.length,0)
def someD (h : RHall) (ws cs : Nat) : Bool := (decide (begT h = [0,0,0]) && decide (cs = 0)) || decide (0 ≤ overD h ws cs (begS h))
def fewestTo (many : Nat) (so : Nat → Bool) : Nat → Option (List Int)
 | 0 => none
 | s + 1 => match fewestTo many so s with
  | none => if so s = true then some (listTo s many) else none
  | some b => if b.length < (listTo s many).length ∨ ((listTo s many).length = b.length ∧ b < listTo s many) then some b else if so s = true then some (listTo s many) else some b
def enoughR (h : RHall) : List Int × Int :=
 if (checkD h).2.2 ≠ 0 then ([],(checkD h).2.2) else match fewestTo h.wri.length (fun s => someD h s (2 ^ h.cus.length - 1)) (2 ^ h.wri.length) with
  | none => ([],9)
  | some l => (l,0)
def awayR (h : RHall) : List Int × Int :=
 if (checkD h).2.2 ≠ 0 then ([],(checkD h).2.2) else match fewestTo h.cus.length (fun s => someD h (2 ^ h.wri.length - 1) (natAndNot (2 ^ h.cus.length - 1) s)) (2 ^ h.cus.length) with
  | none => ([],0)
  | some l => (l,0)
def atShip (h : RHall) (c : Nat) (n : Int) : RHall := { h with cus := h.cus.set c { h.cus[c]! with ship := n } }
def doesD (h : RHall) (c : Nat) (n : Int) : Bool := someD (atShip h c n) (2 ^ h.wri.length - 1) (2 ^ h.cus.length - 1)
def halfD (so : Int → Bool) : Nat → Int → Int → Int
 | 0,lo,_ => lo
 | f + 1,lo,hi => if lo < hi then (if so ((lo + hi) / 2) = true then halfD so f lo ((lo + hi) / 2) else halfD so f ((lo + hi) / 2 + 1) hi) else lo
def laterR (h : RHall) (c : Int) : Int × Int :=
 if (checkD h).2.2 ≠ 0 then (0,(checkD h).2.2) else if offP 0 ((h.cus.length : Int) - 1) c = true then (0,4)
 else if doesD h c.toNat 240 = false then (0,9) else (halfD (doesD h c.toNat) 240 ((h.cus[c.toNat]!).ship) 240 - (h.cus[c.toNat]!).ship,0)
/-! ### The examples -/
def exHall (n : Int) : RHall := ⟨1,[⟨⟨#[112,97,122]⟩,3,0,0⟩,⟨⟨#[114,117,116]⟩,1,2,4⟩],[⟨⟨#[97,110,97]⟩,0,5,8,n⟩,⟨⟨#[98,101,110]⟩,1,6,10,12⟩,⟨⟨#[99,111,114,97]⟩,0,4,6,15⟩]⟩
theorem xd1 : enterD (exHall 20) [[1],[2,0]] = 0 ∧ endsR (exHall 20) [[1],[2,0]] = [(13,20),(7,11),(7,11)] := by constructor <;> kernel_rfl
theorem xd2 : fateD (exHall 20) [[1],[2,0]] = (1,0) := by kernel_rfl
theorem xd3 : fateD (exHall 17) [[1],[2,0]] = (0,0) := by kernel_rfl
theorem xd4 : fateD (exHall 17) [[0,1],[2]] = (2,0) := by kernel_rfl
theorem xd5 : lateR (exHall 17) [[1],[2,0]] = (0,0) := by kernel_rfl
theorem xd6 : lateR (exHall 20) [[1],[2,0]] = (0,9) := by kernel_rfl
theorem xd7 : bestD (exHall 20) = ([[1],[2,0]],20,0) := by kernel_rfl
theorem xd8 : bestD (exHall 17) = ([],0,9) := by kernel_rfl
theorem xd9 : enoughR (exHall 20) = ([0,1],0) := by kernel_rfl
theorem xd10 : awayR (exHall 17) = ([0],0) := by kernel_rfl
theorem xd11 : laterR (exHall 17) 1 = (6,0) := by kernel_rfl
theorem xd12 : laterR (exHall 17) 2 = (3,0) := by kernel_rfl
theorem eqMin (k : Nat) (a b c a' b' c' : Int) (w : World) : (Op.equalIn (k + 2) 99 (.agg #[.int .i64 a,.int .i64 b,.int .i64 c]) (.agg #[.int .i64 a',.int .i64 b',.int .i64 c'])).run Tryz.prog w = .ok (decide (a = a') && (decide (b = b') && decide (c = c'))) w := by
 have hsz : (sizeOf 3).run Tryz.prog w = .ok 1 w := tyok_3.size w
 have p0 := part3 (cs := #[Value.int .i64 a,.int .i64 b,.int .i64 c]) (off := 0) rfl w
 have p1 := part3 (cs := #[Value.int .i64 a,.int .i64 b,.int .i64 c]) (off := 1) rfl w
 have p2 := part3 (cs := #[Value.int .i64 a,.int .i64 b,.int .i64 c]) (off := 2) rfl w
 have t0 := part3 (cs := #[Value.int .i64 a',.int .i64 b',.int .i64 c']) (off := 0) rfl w
 have t1 := part3 (cs := #[Value.int .i64 a',.int .i64 b',.int .i64 c']) (off := 1) rfl w
 have t2 := part3 (cs := #[Value.int .i64 a',.int .i64 b',.int .i64 c']) (off := 2) rfl w
 have q := fun x y : Int => eqInt3 k x y w
 rw [Op.equalIn]
 generalize hE : Op.equalIn (k + 1) = E
 rw [hE] at q
 simp only [Sem.run_bind,run_underlying Tryz.underlying99,Result.andThen_ok,hsz]
 simp only [Std.Legacy.Range.forIn_eq_forIn_range',Std.Legacy.Range.size,Nat.sub_zero,Nat.add_sub_cancel,Nat.div_one,List.range'_succ,List.range'_zero,List.forIn_cons,List.forIn_nil,Nat.zero_add,Nat.reduceAdd,Nat.zero_mul,Nat.one_mul,Nat.reduceMul,Nat.mul_one,Sem.run_bind,p0,p1,p2,t0,t1,t2,Result.andThen_ok]
 clear hE
 have q0 := q a a'
 have q1 := q b b'
 have q2 := q c c'
 generalize decide (a = a') = A at *
 generalize decide (b = b') = B at *
 generalize decide (c = c') = C at *
 cases A <;> cases B <;> cases C <;> simp_all [Sem.run_bind,Sem.run_pure,Result.andThen_ok]
theorem beyondD1_c (n lo hi : Int) : PCall Tryz.prog 106 [.int .i64 n,.eptr [.int .i64 lo],.eptr [.int .i64 hi]] (.bool (offP lo hi n)) := by
 intro m
 (refine acall_intro (E := env fun _ => .imm) (envOk _) rfl Tryz.func106 rfl Tryz.call106 (by kernel_rfl) (by simp [Tryz.ntmps106]) ?_; simp only [Tryz.f106];  simp(maxSteps:=9^9)only[↓VX,VQ,seval])
 repeat'(first|intro _|apply And.intro)
 all_goals simp_all [offP]
 all_goals omega
theorem beyondD_c (lo hi : Int) (l : List Int) : PCall Tryz.prog 72 [.int .i64 lo,.int .i64 hi,ints l] (.bool (l.any (offP lo hi))) := by
 intro m
 (refine acall_intro (E := env fun _ => .imm) (envOk _) rfl Tryz.func72 rfl Tryz.call72 (by kernel_rfl) (by simp [Tryz.ntmps72]) ?_; simp only [Tryz.f72];  simp(maxSteps:=9^9)only[↓VX,VQ,seval])
 repeat'(first|intro _|apply And.intro)
 refine ACall.pure (containsInt_c 106 _ l (offP lo hi) fun x _ => beyondD1_c x lo hi) ?_
 simp(maxSteps:=9^9)only[↓VX,VQ,seval]
 repeat'(first|intro _|apply And.intro)
def failD {α : Type} (f : Nat → α → Int) (most : Int) (l : List α) : Int × Int := if most < l.length then (0,3) else failFrom f 0 l
theorem indexWri_c (g : FuncId) (caps : List AV) (l : List RWri) (p : RWri → Bool) (h : ∀ x ∈ l,PCall Tryz.prog g ([wriA x] ++ caps) (.bool (p x))) :
  PCall Tryz.prog 110 [.slice 4 (l.map wriA),.fn (.func g) [] caps] (.int .i64 (idxL p l)) := by
 intro m
 (refine acall_len Tryz.call110 fun hlen => ?_; refine acall_intro (E := env fun _ => .imm) (envOk _) rfl Tryz.func110 rfl Tryz.call110 (by kernel_rfl) (by simp [Tryz.ntmps110]) ?_; simp only [Tryz.f110];  simp(maxSteps:=9^9)only[↓VX,VQ,seval])
 simp only [lenOk_cons,lenOk_nil,List.length_map,and_true,maxLen_eq] at hlen
 intro _
 refine aloop (envOk _) (fun k : Nat => ⟨[(0,.v (.slice 4 (l.map wriA))),(1,.v (.fn (.func g) [] caps)),(7,.v (.int .i64 l.length)),(8,.v (.int .i64 k))],[],[],m⟩) (fun k => k ≤ l.length ∧ ∀ x ∈ l.take k,p x = false) (fun k => l.length - k) 0 (fun _ => rfl) (by simp) (by (simp only [FE,↓FP,seval]); try simp) ?_
 intro k ⟨hk,hp⟩
 simp(maxSteps:=9^9)only[↓VX,VQ,seval,↓wriA]
 repeat'(first|intro _|apply And.intro)
 all_goals try first|omega|(simp only[LL];omega)|exact nlC (by decide) _|exact nbC rfl
 ·have hlt : k < l.length := by omega
  have e1 : l[k]! = l[k] := getD_any hlt
  have hc := h l[k]! (by rw [e1]; exact List.getElem_mem hlt)
  simp only [wriA,List.cons_append,List.nil_append] at hc
  refine ACall.pure hc ?_
  simp(maxSteps:=9^9)only[↓VX,VQ,seval]
  repeat'(first|intro _|apply And.intro)
  all_goals try first|omega|(simp only[LL];omega)|exact nlC (by decide) _|exact nbC rfl
  ·rename_i hpx
   rw [idxL_at hlt hp (by rw [← e1]; exact hpx)]
  ·have hpx : ¬ p l[k]! = true := by assumption
   refine ⟨k + 1,⟨by omega,forall_take_succ hlt hp (by rw [← e1]; simpa using hpx)⟩,by dsimp only; omega,?_⟩
   simp only [FE,↓FP,seval]
   simp
 ·have : l.take k = l := List.take_of_length_le (by omega)
  rw [this] at hp
  rw [idxL_neg hp]
theorem containsWri_c (g : FuncId) (caps : List AV) (l : List RWri) (p : RWri → Bool) (h : ∀ x ∈ l,PCall Tryz.prog g ([wriA x] ++ caps) (.bool (p x))) :
  PCall Tryz.prog 79 [.slice 4 (l.map wriA),.fn (.func g) [] caps] (.bool (l.any p)) := by
 intro m
 (refine acall_intro (E := env fun _ => .imm) (envOk _) rfl Tryz.func79 rfl Tryz.call79 (by kernel_rfl) (by simp [Tryz.ntmps79]) ?_; simp only [Tryz.f79];  simp(maxSteps:=9^9)only[↓VX,VQ,seval])
 refine ACall.pure (indexWri_c g caps l p h) ?_
 simp(maxSteps:=9^9)only[↓VX,VQ,seval]
 repeat'(first|intro _|apply And.intro)
 rw [idxL_any]
theorem failingWri_c (g : FuncId) (caps : List AV) (l : List RWri) (most : Int) (f : Nat → RWri → Int) (h : ∀ (i : Nat) (hi : i < l.length),PCall Tryz.prog g ([.int .i64 i,wriA l[i]] ++ caps) (.int .i64 (f i l[i]))) :
  PCall Tryz.prog 76 [.slice 4 (l.map wriA),.int .i64 most,.fn (.func g) [] caps] (.tuple [.int .i64 (failD f most l).1,.int .i64 (failD f most l).2]) := by
 intro m
 have e : failD f most l = if most < l.length then (0,3) else failFrom f 0 l := rfl
 generalize failD f most l = W at *
 refine acall_len Tryz.call76 fun hlen => ?_; (refine acall_intro (E := envC (modeAt [9] []) false []) (envCOk _ _ _) rfl Tryz.func76 rfl Tryz.call76 (by kernel_rfl) (by simp [Tryz.ntmps76]) ?_; simp only [Tryz.f76];  simp(maxSteps:=9^9)only[↓VX,VQ,seval])
 simp only [lenOk_cons,lenOk_nil,List.length_map,and_true,maxLen_eq] at hlen
 intro _
 repeat'(first|intro _|apply And.intro)
 all_goals try first|omega|(simp only[LL];omega)|exact nlC (by decide) _|exact nbC rfl
 ·rw [e,if_pos (by assumption)]
 rw [if_neg (by assumption)] at e
 refine aloop (envCOk _ _ _) (fun k : Nat => ⟨[(0,.v (.slice 4 (l.map wriA))),(2,.v (.fn (.func g) [] caps)),(15,.v (.slice 4 (l.map wriA))),(16,.v (.int .i64 l.length)),(17,.v (.int .i64 k))],[],[],m⟩)
  (fun k => k ≤ l.length ∧ failFrom f k (l.drop k) = failFrom f 0 l) (fun k => l.length - k) 0 (fun _ => rfl) (by simp) (by (simp only [FE,↓FP,seval]); try simp) ?_
 rintro k ⟨hk,hf⟩
 simp(maxSteps:=9^9)only[↓VX,VQ,seval,↓wriA]
 repeat'(first|intro _|apply And.intro)
 all_goals try first|omega|(simp only[LL];omega)|exact nlC (by decide) _|exact nbC rfl
 ·have hlt : k < l.length := by omega
  have e1 : l[k]! = l[k] := getD_any hlt
  rw [List.drop_eq_getElem_cons hlt] at hf
  have hc := h k hlt
  rw [← e1] at hc
  simp only [wriA,List.cons_append,List.nil_append] at hc
  refine ACall.pure hc ?_
  simp(maxSteps:=9^9)only[↓VX,VQ,seval]
  repeat'(first|intro _|apply And.intro)
  all_goals try first|omega|(simp only[LL];omega)|exact nlC (by decide) _|exact nbC rfl
  ·have hne : f k l[k]! ≠ 0 := by assumption
   rw [e1] at hne
   rw [e,← hf,failFrom_hit hne,e1]
  ·have heq : ¬ f k l[k]! ≠ 0 := by assumption
   rw [e1] at heq
   rw [failFrom_skip heq] at hf
   (refine ⟨k + 1,?_,by dsimp only; omega,?_⟩; rotate_left 1; · ((simp only [FE,↓FP,seval]); try simp []))
   exact ⟨by omega,hf⟩
 ·rw [List.drop_eq_nil_of_le (by omega)] at hf
  rw [e,← hf]; rfl
theorem indexCus_c (g : FuncId) (caps : List AV) (l : List RCus) (p : RCus → Bool) (h : ∀ x ∈ l,PCall Tryz.prog g ([cusA x] ++ caps) (.bool (p x))) :
  PCall Tryz.prog 111 [.slice 5 (l.map cusA),.fn (.func g) [] caps] (.int .i64 (idxL p l)) := by
 intro m
 (refine acall_len Tryz.call111 fun hlen => ?_; refine acall_intro (E := env fun _ => .imm) (envOk _) rfl Tryz.func111 rfl Tryz.call111 (by kernel_rfl) (by simp [Tryz.ntmps111]) ?_; simp only [Tryz.f111];  simp(maxSteps:=9^9)only[↓VX,VQ,seval])
 simp only [lenOk_cons,lenOk_nil,List.length_map,and_true,maxLen_eq] at hlen
 intro _
 refine aloop (envOk _) (fun k : Nat => ⟨[(0,.v (.slice 5 (l.map cusA))),(1,.v (.fn (.func g) [] caps)),(7,.v (.int .i64 l.length)),(8,.v (.int .i64 k))],[],[],m⟩) (fun k => k ≤ l.length ∧ ∀ x ∈ l.take k,p x = false) (fun k => l.length - k) 0 (fun _ => rfl) (by simp) (by (simp only [FE,↓FP,seval]); try simp) ?_
 intro k ⟨hk,hp⟩
 simp(maxSteps:=9^9)only[↓VX,VQ,seval,↓cusA]
 repeat'(first|intro _|apply And.intro)
 all_goals try first|omega|(simp only[LL];omega)|exact nlC (by decide) _|exact nbC rfl
 ·have hlt : k < l.length := by omega
  have e1 : l[k]! = l[k] := getD_any hlt
  have hc := h l[k]! (by rw [e1]; exact List.getElem_mem hlt)
  simp only [cusA,List.cons_append,List.nil_append] at hc
  refine ACall.pure hc ?_
  simp(maxSteps:=9^9)only[↓VX,VQ,seval]
  repeat'(first|intro _|apply And.intro)
  all_goals try first|omega|(simp only[LL];omega)|exact nlC (by decide) _|exact nbC rfl
  ·rename_i hpx
   rw [idxL_at hlt hp (by rw [← e1]; exact hpx)]
  ·have hpx : ¬ p l[k]! = true := by assumption
   refine ⟨k + 1,⟨by omega,forall_take_succ hlt hp (by rw [← e1]; simpa using hpx)⟩,by dsimp only; omega,?_⟩
   simp only [FE,↓FP,seval]
   simp
 ·have : l.take k = l := List.take_of_length_le (by omega)
  rw [this] at hp
  rw [idxL_neg hp]
theorem containsCus_c (g : FuncId) (caps : List AV) (l : List RCus) (p : RCus → Bool) (h : ∀ x ∈ l,PCall Tryz.prog g ([cusA x] ++ caps) (.bool (p x))) :
  PCall Tryz.prog 83 [.slice 5 (l.map cusA),.fn (.func g) [] caps] (.bool (l.any p)) := by
 intro m
 (refine acall_intro (E := env fun _ => .imm) (envOk _) rfl Tryz.func83 rfl Tryz.call83 (by kernel_rfl) (by simp [Tryz.ntmps83]) ?_; simp only [Tryz.f83];  simp(maxSteps:=9^9)only[↓VX,VQ,seval])
 refine ACall.pure (indexCus_c g caps l p h) ?_
 simp(maxSteps:=9^9)only[↓VX,VQ,seval]
 repeat'(first|intro _|apply And.intro)
 rw [idxL_any]
theorem failingCus_c (g : FuncId) (caps : List AV) (l : List RCus) (most : Int) (f : Nat → RCus → Int) (h : ∀ (i : Nat) (hi : i < l.length),PCall Tryz.prog g ([.int .i64 i,cusA l[i]] ++ caps) (.int .i64 (f i l[i]))) :
  PCall Tryz.prog 81 [.slice 5 (l.map cusA),.int .i64 most,.fn (.func g) [] caps] (.tuple [.int .i64 (failD f most l).1,.int .i64 (failD f most l).2]) := by
 intro m
 have e : failD f most l = if most < l.length then (0,3) else failFrom f 0 l := rfl
 generalize failD f most l = W at *
 refine acall_len Tryz.call81 fun hlen => ?_; (refine acall_intro (E := envC (modeAt [9] []) false []) (envCOk _ _ _) rfl Tryz.func81 rfl Tryz.call81 (by kernel_rfl) (by simp [Tryz.ntmps81]) ?_; simp only [Tryz.f81];  simp(maxSteps:=9^9)only[↓VX,VQ,seval])
 simp only [lenOk_cons,lenOk_nil,List.length_map,and_true,maxLen_eq] at hlen
 intro _
 repeat'(first|intro _|apply And.intro)
 all_goals try first|omega|(simp only[LL];omega)|exact nlC (by decide) _|exact nbC rfl
 ·rw [e,if_pos (by assumption)]
 rw [if_neg (by assumption)] at e
 refine aloop (envCOk _ _ _) (fun k : Nat => ⟨[(0,.v (.slice 5 (l.map cusA))),(2,.v (.fn (.func g) [] caps)),(15,.v (.slice 5 (l.map cusA))),(16,.v (.int .i64 l.length)),(17,.v (.int .i64 k))],[],[],m⟩)
  (fun k => k ≤ l.length ∧ failFrom f k (l.drop k) = failFrom f 0 l) (fun k => l.length - k) 0 (fun _ => rfl) (by simp) (by (simp only [FE,↓FP,seval]); try simp) ?_
 rintro k ⟨hk,hf⟩
 simp(maxSteps:=9^9)only[↓VX,VQ,seval,↓cusA]
 repeat'(first|intro _|apply And.intro)
 all_goals try first|omega|(simp only[LL];omega)|exact nlC (by decide) _|exact nbC rfl
 ·have hlt : k < l.length := by omega
  have e1 : l[k]! = l[k] := getD_any hlt
  rw [List.drop_eq_getElem_cons hlt] at hf
  have hc := h k hlt
  rw [← e1] at hc
  simp only [cusA,List.cons_append,List.nil_append] at hc
  refine ACall.pure hc ?_
  simp(maxSteps:=9^9)only[↓VX,VQ,seval]
  repeat'(first|intro _|apply And.intro)
  all_goals try first|omega|(simp only[LL];omega)|exact nlC (by decide) _|exact nbC rfl
  ·have hne : f k l[k]! ≠ 0 := by assumption
   rw [e1] at hne
   rw [e,← hf,failFrom_hit hne,e1]
  ·have heq : ¬ f k l[k]! ≠ 0 := by assumption
   rw [e1] at heq
   rw [failFrom_skip heq] at hf
   (refine ⟨k + 1,?_,by dsimp only; omega,?_⟩; rotate_left 1; · ((simp only [FE,↓FP,seval]); try simp []))
   exact ⟨by omega,hf⟩
 ·rw [List.drop_eq_nil_of_le (by omega)] at hf
  rw [e,← hf]; rfl
end Go.Proofs.YteppmjlfpniiaaaGreat.Abs
