/- Lemmas for the statements of this seat (X23): they hold without conditions beyond those that each one states. -/
import Derived.Test.YteppmjlfpniiaaaGreatX21
import Derived.Test.YteppmjlfpniiaaaGreatX18
import Derived.Test.YteppmjlfpniiaaaGreatX17
/- Contracts: a hall that is entered,with a plan. -/
namespace Go.Proofs.YteppmjlfpniiaaaGreat.Abs
set_option linter.unusedSimpArgs false
set_option maxHeartbeats 4000000
set_option maxRecDepth 100000
open Go Go.RowKit Go.Proofs
def flawE (h : RHall) (p : List (List Int)) : Int :=
  if p.length ≠ h.wri.length then 3 else if noneP h p = true then 4 else if twiceP p = true then 5 else if otherP h (2 ^ h.wri.length - 1) p = true then 2 else if p.flatten.length < h.cus.length then 8 else 0
theorem enterD_flaw (h : RHall) (p : List (List Int)) : enterD h p = if (checkD h).2.2 ≠ 0 then (checkD h).2.2 else flawE h p := rfl
theorem denter_c (h : RHall) (hs : dnamesFit h) (p : List (List Int)) (hp : p.flatten.length ≤ 1000) (m : Mem) :
    ACall Tryz.prog 48 [hallA h,rowsA p] m (fun r m' => (enterD h p ≠ 0 ∧ r = .tuple [.nilptr,.int .i64 (enterD h p)] ∧ m' = m) ∨
      (enterD h p = 0 ∧ DOk h ∧ ∃ hb km : Nat,r = .tuple [.ptr hb 0,.int .i64 0] ∧ m hb = none ∧ m km = none ∧ hb ≠ km ∧ m' = upd (upd m km (some (.map []))) hb (some (.cells (hallC h (2 ^ h.wri.length - 1) (2 ^ h.cus.length - 1) km))))) := by
  refine ACall.forget ?_
  have h1 := dcheck_c h hs
  have e0 := enterD_flaw h p
  have hfl := flaws_c
  by_cases hc : (checkD h).2.2 = 0
  · have hd := dok_check hc
    have hlk := dlook_c h hd.n hd.m m
    have p1 : 2 ^ h.wri.length ≤ 8 := Nat.pow_le_pow_right (n := 2) (by decide) hd.n
    have p3 : 0 < 2 ^ h.wri.length := Nat.pow_pos (by decide)
    rw [if_neg (by omega)] at e0
    have f1 := fun hb km m1 hm => flaw1_c h hd (2 ^ h.wri.length - 1) (2 ^ h.cus.length - 1) km hb p m1 hm
    have f2 := fun hb km m1 hm => flaw2_c h hd (2 ^ h.wri.length - 1) (2 ^ h.cus.length - 1) km hb p hp m1 hm
    have f3 := fun hb m1 => flaw3_c hb p hp m1
    have f4 := fun hb km hl hn m1 hm => flaw4_c h hd (2 ^ h.wri.length - 1) (2 ^ h.cus.length - 1) km hb (by omega) p hp hl hn m1 hm
    have f5 := fun hb km m1 hm => flaw5_c h hd (2 ^ h.wri.length - 1) (2 ^ h.cus.length - 1) km hb p hp m1 hm
    have eE : flawE h p = if p.length ≠ h.wri.length then 3 else if noneP h p = true then 4 else if twiceP p = true then 5 else if otherP h (2 ^ h.wri.length - 1) p = true then 2 else if p.flatten.length < h.cus.length then 8 else 0 := rfl
    rw [hc] at h1
    simp only [hallA,hallL] at h1 hlk ⊢
    (refine acall_intro (E := envC (modeAt [11] []) false []) (envCOk _ _ _) rfl Tryz.func48 rfl Tryz.call48 (by kernel_rfl) (by simp [Tryz.ntmps48]) ?_; simp only [Tryz.f48];  simp(maxSteps:=9^9)only[↓VX,VQ,seval,])
    ((refine ACall.pure (h1) ?_; try simp(maxSteps:=9^9)only[↓VX,VQ,seval]); try simp(maxSteps:=9^9)only[↓VX,VQ,seval,GL])
    refine ACall.told hlk ?_
    rintro r m1 ⟨hb,km,rfl,g1,g2,g3,rfl⟩
    have hm : upd (upd m km (some (.map []))) hb (some (.cells (hallC h (2 ^ h.wri.length - 1) (2 ^ h.cus.length - 1) km))) hb = some (.cells (hallC h (2 ^ h.wri.length - 1) (2 ^ h.cus.length - 1) km)) := upd_same _ _ _
    have hsub : ∀ b x,m b = some x → upd (upd m km (some (.map []))) hb (some (.cells (hallC h (2 ^ h.wri.length - 1) (2 ^ h.cus.length - 1) km))) b = some x := fun b x e => by
      rw [upd_ne _ _ (by rintro rfl; rw [g1] at e; cases e),upd_ne _ _ (by rintro rfl; rw [g2] at e; cases e)]; exact e
    generalize hm1 : upd (upd m km (some (.map []))) hb (some (.cells (hallC h (2 ^ h.wri.length - 1) (2 ^ h.cus.length - 1) km))) = m1 at *
    simp(maxSteps:=9^9)only[↓VX,VQ,seval]
    ((refine ACall.pure (hfl) ?_; try simp(maxSteps:=9^9)only[↓VX,VQ,seval]); try simp(maxSteps:=9^9)only[↓VX,VQ,seval,GL])
    repeat'(first|intro _|apply And.intro)
    all_goals try first|omega|(simp only[LL];omega)|exact nlC (by decide) _|exact nbC rfl
    refine aloop (envCOk _ _ _) (fun k : Nat => ⟨[(0,.v (.agg [.int .i64 h.sl,.slice 4 (h.wri.map wriA),.slice 5 (h.cus.map cusA)])),(1,.v (rowsA p)),(9,.v (.ptr hb 0)),(23,.v (.slice 2 [.agg [.int .i64 3,.fn (.func 112) [] []],.agg [.int .i64 4,.fn (.func 113) [] []],.agg [.int .i64 5,.fn (.func 116) [] []],.agg [.int .i64 2,.fn (.func 119) [] []],.agg [.int .i64 8,.fn (.func 121) [] []]])),(24,.v (.int .i64 5)),(25,.v (.int .i64 k))],[],[],m1⟩)
      (fun k => k ≤ 5 ∧ (0 < k → p.length = h.wri.length) ∧ (1 < k → noneP h p = false) ∧ (2 < k → twiceP p = false) ∧ (3 < k → otherP h (2 ^ h.wri.length - 1) p = false) ∧ (4 < k → ¬ p.flatten.length < h.cus.length)) (fun k => 5 - k) 0 (fun _ => rfl) (by simp) (by (simp only [FE,↓FP,seval]); try simp) ?_
    rintro k ⟨hk,k0,k1,k2,k3,k4⟩
    rcases (by omega : k = 0 ∨ k = 1 ∨ k = 2 ∨ k = 3 ∨ k = 4 ∨ k = 5) with rfl | rfl | rfl | rfl | rfl | rfl
    · simp(maxSteps:=9^9)only[↓VX,VQ,seval]
      refine ⟨_,rfl,by decide,?_⟩
      simp(maxSteps:=9^9)only[↓VX,VQ,seval,AV.cells]
      refine ACall.told (f1 hb km _ hm) ?_
      rintro r m2 ⟨rfl,rfl⟩
      by_cases q : p.length ≠ h.wri.length
      · have e9 : flawE h p = 3 := by rw [eE]; rw [if_pos q]
        rw [e9] at e0
        rw [decide_eq_true q]
        simp(maxSteps:=9^9)only[↓VX,VQ,seval]
        (refine adraw (by first | exact envOk _ | exact envCOk _ _ _) mixed [⟨false,false,0⟩,⟨false,false,0⟩,⟨false,false,0⟩,⟨false,false,0⟩] (by kernel_rfl) ?_; show vcOpsD _ _ _ (_ :: _) _ _)
        simp(maxSteps:=9^9)only[↓VX,VQ,seval]
        exact ⟨m,hsub,.inl ⟨by rw [e0]; decide,by rw [e0],rfl⟩⟩
      · rw [decide_eq_false q]
        simp(maxSteps:=9^9)only[↓VX,VQ,seval]
        repeat'(first|intro _|apply And.intro)
        all_goals try first|omega|(simp only[LL];omega)|exact nlC (by decide) _|exact nbC rfl
        refine ⟨1,⟨by decide,?_⟩,by dsimp only; omega,?_⟩
        · simp_all
        (simp only [FE,↓FP,seval])
    · have k0 := k0 (by decide)
      simp(maxSteps:=9^9)only[↓VX,VQ,seval]
      refine ⟨_,rfl,by decide,?_⟩
      simp(maxSteps:=9^9)only[↓VX,VQ,seval,AV.cells]
      refine ACall.told (f2 hb km _ hm) ?_
      rintro r m2 ⟨rfl,rfl⟩
      rcases Bool.eq_false_or_eq_true (noneP h p) with q | q
      · have e9 : flawE h p = 4 := by rw [eE]; rw [if_neg (by simp_all)]; rw [if_pos q]
        rw [e9] at e0
        rw [q]
        simp(maxSteps:=9^9)only[↓VX,VQ,seval]
        (refine adraw (by first | exact envOk _ | exact envCOk _ _ _) mixed [⟨false,false,0⟩,⟨false,false,0⟩,⟨false,false,0⟩,⟨false,false,0⟩] (by kernel_rfl) ?_; show vcOpsD _ _ _ (_ :: _) _ _)
        simp(maxSteps:=9^9)only[↓VX,VQ,seval]
        exact ⟨m,hsub,.inl ⟨by rw [e0]; decide,by rw [e0],rfl⟩⟩
      · rw [q]
        simp(maxSteps:=9^9)only[↓VX,VQ,seval]
        repeat'(first|intro _|apply And.intro)
        all_goals try first|omega|(simp only[LL];omega)|exact nlC (by decide) _|exact nbC rfl
        refine ⟨2,⟨by decide,?_⟩,by dsimp only; omega,?_⟩
        · simp_all
        (simp only [FE,↓FP,seval])
    · have k0 := k0 (by decide)
      have k1 := k1 (by decide)
      simp(maxSteps:=9^9)only[↓VX,VQ,seval]
      refine ⟨_,rfl,by decide,?_⟩
      simp(maxSteps:=9^9)only[↓VX,VQ,seval,AV.cells]
      refine ACall.told (f3 hb _) ?_
      rintro r m2 ⟨rfl,rfl⟩
      rcases Bool.eq_false_or_eq_true (twiceP p) with q | q
      · have e9 : flawE h p = 5 := by rw [eE]; rw [if_neg (by simp_all)]; rw [if_neg (by simp_all)]; rw [if_pos q]
        rw [e9] at e0
        rw [q]
        simp(maxSteps:=9^9)only[↓VX,VQ,seval]
        (refine adraw (by first | exact envOk _ | exact envCOk _ _ _) mixed [⟨false,false,0⟩,⟨false,false,0⟩,⟨false,false,0⟩,⟨false,false,0⟩] (by kernel_rfl) ?_; show vcOpsD _ _ _ (_ :: _) _ _)
        simp(maxSteps:=9^9)only[↓VX,VQ,seval]
        exact ⟨m,hsub,.inl ⟨by rw [e0]; decide,by rw [e0],rfl⟩⟩
      · rw [q]
        simp(maxSteps:=9^9)only[↓VX,VQ,seval]
        repeat'(first|intro _|apply And.intro)
        all_goals try first|omega|(simp only[LL];omega)|exact nlC (by decide) _|exact nbC rfl
        refine ⟨3,⟨by decide,?_⟩,by dsimp only; omega,?_⟩
        · simp_all
        (simp only [FE,↓FP,seval])
    · have k0 := k0 (by decide)
      have k1 := k1 (by decide)
      have k2 := k2 (by decide)
      simp(maxSteps:=9^9)only[↓VX,VQ,seval]
      refine ⟨_,rfl,by decide,?_⟩
      simp(maxSteps:=9^9)only[↓VX,VQ,seval,AV.cells]
      refine ACall.told (f4 hb km k0 k1 _ hm) ?_
      rintro r m2 ⟨rfl,rfl⟩
      rcases Bool.eq_false_or_eq_true (otherP h (2 ^ h.wri.length - 1) p) with q | q
      · have e9 : flawE h p = 2 := by rw [eE]; rw [if_neg (by simp_all)]; rw [if_neg (by simp_all)]; rw [if_neg (by simp_all)]; rw [if_pos q]
        rw [e9] at e0
        rw [q]
        simp(maxSteps:=9^9)only[↓VX,VQ,seval]
        (refine adraw (by first | exact envOk _ | exact envCOk _ _ _) mixed [⟨false,false,0⟩,⟨false,false,0⟩,⟨false,false,0⟩,⟨false,false,0⟩] (by kernel_rfl) ?_; show vcOpsD _ _ _ (_ :: _) _ _)
        simp(maxSteps:=9^9)only[↓VX,VQ,seval]
        exact ⟨m,hsub,.inl ⟨by rw [e0]; decide,by rw [e0],rfl⟩⟩
      · rw [q]
        simp(maxSteps:=9^9)only[↓VX,VQ,seval]
        repeat'(first|intro _|apply And.intro)
        all_goals try first|omega|(simp only[LL];omega)|exact nlC (by decide) _|exact nbC rfl
        refine ⟨4,⟨by decide,?_⟩,by dsimp only; omega,?_⟩
        · simp_all
        (simp only [FE,↓FP,seval])
    · have k0 := k0 (by decide)
      have k1 := k1 (by decide)
      have k2 := k2 (by decide)
      have k3 := k3 (by decide)
      simp(maxSteps:=9^9)only[↓VX,VQ,seval]
      refine ⟨_,rfl,by decide,?_⟩
      simp(maxSteps:=9^9)only[↓VX,VQ,seval,AV.cells]
      refine ACall.told (f5 hb km _ hm) ?_
      rintro r m2 ⟨rfl,rfl⟩
      by_cases q : p.flatten.length < h.cus.length
      · have e9 : flawE h p = 8 := by rw [eE]; rw [if_neg (by simp_all)]; rw [if_neg (by simp_all)]; rw [if_neg (by simp_all)]; rw [if_neg (by simp_all)]; rw [if_pos q]
        rw [e9] at e0
        rw [decide_eq_true q]
        simp(maxSteps:=9^9)only[↓VX,VQ,seval]
        (refine adraw (by first | exact envOk _ | exact envCOk _ _ _) mixed [⟨false,false,0⟩,⟨false,false,0⟩,⟨false,false,0⟩,⟨false,false,0⟩] (by kernel_rfl) ?_; show vcOpsD _ _ _ (_ :: _) _ _)
        simp(maxSteps:=9^9)only[↓VX,VQ,seval]
        exact ⟨m,hsub,.inl ⟨by rw [e0]; decide,by rw [e0],rfl⟩⟩
      · rw [decide_eq_false q]
        simp(maxSteps:=9^9)only[↓VX,VQ,seval]
        repeat'(first|intro _|apply And.intro)
        all_goals try first|omega|(simp only[LL];omega)|exact nlC (by decide) _|exact nbC rfl
        refine ⟨5,⟨by decide,?_⟩,by dsimp only; omega,?_⟩
        · simp_all
        (simp only [FE,↓FP,seval])
    · have k0 := k0 (by decide)
      have k1 := k1 (by decide)
      have k2 := k2 (by decide)
      have k3 := k3 (by decide)
      have k4 := k4 (by decide)
      have e9 : flawE h p = 0 := by rw [eE,if_neg (fun q => q k0),if_neg (by rw [k1]; decide),if_neg (by rw [k2]; decide),if_neg (by rw [k3]; decide),if_neg k4]
      rw [e9] at e0
      simp(maxSteps:=9^9)only[↓VX,VQ,seval]
      exact ⟨m1,fun _ _ q => q,.inr ⟨e0,hd,hb,km,rfl,g1,g2,g3,hm1.symm⟩⟩
  · rw [if_pos hc] at e0
    simp only [hallA,hallL] at h1 ⊢
    (refine acall_intro (E := envC (modeAt [11] []) false []) (envCOk _ _ _) rfl Tryz.func48 rfl Tryz.call48 (by kernel_rfl) (by simp [Tryz.ntmps48]) ?_; simp only [Tryz.f48];  simp(maxSteps:=9^9)only[↓VX,VQ,seval,])
    ((refine ACall.pure (h1) ?_; try simp(maxSteps:=9^9)only[↓VX,VQ,seval]); try simp(maxSteps:=9^9)only[↓VX,VQ,seval,GL])
    repeat'(first|intro _|apply And.intro)
    · exact ⟨m,fun _ _ q => q,.inl ⟨by rw [e0]; exact hc,by rw [e0],rfl⟩⟩
    · exact absurd hc (by assumption)
def endA (x : Int × Int) : AV := .agg [.int .i64 x.1,.int .i64 x.2]
def cellsE (l : List (Int × Int)) : List AV := ((l.map endA).map AV.cells).flatten
theorem cellsE_cons (x : Int × Int) (l : List (Int × Int)) : cellsE (x :: l) = .int .i64 x.1 :: .int .i64 x.2 :: cellsE l := rfl
theorem cellsE_length : ∀ l : List (Int × Int),(cellsE l).length = l.length * 2
  | [] => rfl
  | x :: l => by rw [cellsE_cons,List.length_cons,List.length_cons,cellsE_length l,List.length_cons]; omega
theorem cellsE_set : ∀ {l : List (Int × Int)} {k : Nat} (_ : k < l.length) (a b : Int),overlay (cellsE l) (k * 2) [.int .i64 a,.int .i64 b] = cellsE (l.set k (a,b))
  | [],k,h,_,_ => absurd h (Nat.not_lt_zero _)
  | x :: l,0,_,a,b => by
    rw [cellsE_cons]; rfl
  | x :: l,k + 1,h,a,b => by
    have ih := cellsE_set (l := l) (k := k) (by simpa using h) a b
    rw [cellsE_cons,List.set_cons_succ,cellsE_cons,← ih]
    unfold overlay
    rw [show (k + 1) * 2 = k * 2 + 1 + 1 by omega,show k * 2 + 1 + 1 + [AV.int .i64 a,.int .i64 b].length = k * 2 + [AV.int .i64 a,.int .i64 b].length + 1 + 1 by simp only [List.length_cons,List.length_nil]]
    rfl
theorem cellsE_zero : ∀ n : Nat,cellsE (List.replicate n (0,0)) = (List.replicate n [AV.int .i64 0,.int .i64 0]).flatten
  | 0 => rfl
  | n + 1 => by
    rw [List.replicate_succ,cellsE_cons,cellsE_zero n,List.replicate_succ,List.flatten_cons]; rfl
def endT (h : RHall) (w : Nat) (l : List (Int × Int)) (own : List Int) (i : Nat) : (Int × Int) × List (Int × Int) := (own.take i).foldl (endStep h) (((h.wri[w]!).lo,(h.wri[w]!).hi),l)
theorem endT_succ (h : RHall) (w : Nat) (l : List (Int × Int)) (own : List Int) {i : Nat} (hi : i < own.length) : endT h w l own (i + 1) = endStep h (endT h w l own i) (own[i]!) := by
  unfold endT; rw [List.take_succ_eq_append_getElem hi,List.foldl_append,getD_any hi]; rfl
theorem endT_all (h : RHall) (w : Nat) (l : List (Int × Int)) (own : List Int) : (endT h w l own own.length).2 = endsOne h w l own := by
  unfold endT endsOne; rw [List.take_length]
theorem endT_len (h : RHall) (w : Nat) (l : List (Int × Int)) (own : List Int) : ∀ i,i ≤ own.length → (endT h w l own i).2.length = l.length
  | 0,_ => rfl
  | i + 1,hi => by
    rw [endT_succ h w l own (by omega)]
    show ((endT h w l own i).2.set _ _).length = _
    rw [List.length_set]
    exact endT_len h w l own i (by omega)
theorem endT_bound {h : RHall} (hd : DOk h) {w : Nat} (hw : w < h.wri.length) (l : List (Int × Int)) (own : List Int) (ho : ∀ x ∈ own,0 ≤ x ∧ x ≤ (h.cus.length : Int) - 1) : ∀ i : Nat,i ≤ own.length → (0 ≤ (endT h w l own i).1.1 ∧ (endT h w l own i).1.1 ≤ 240 + 35 * i) ∧ 0 ≤ (endT h w l own i).1.2 ∧ (endT h w l own i).1.2 ≤ 240 + 35 * i
  | 0,_ => by
    have := hd.wri w hw
    show (0 ≤ (h.wri[w]!).lo ∧ (h.wri[w]!).lo ≤ _) ∧ 0 ≤ (h.wri[w]!).hi ∧ (h.wri[w]!).hi ≤ _
    omega
  | i + 1,hi => by
    have ih := endT_bound hd hw l own ho i (by omega)
    rw [endT_succ h w l own (by omega)]
    have hx := ho (own[i]!) (by rw [getD_any (by omega)]; exact List.getElem_mem _)
    have hc := (hd.cus (own[i]!).toNat (by omega)).2.1
    have hs := hd.sl
    show (0 ≤ (endT h w l own i).1.1 + (h.cus[(own[i]!).toNat]!).lo + h.sl ∧ (endT h w l own i).1.1 + (h.cus[(own[i]!).toNat]!).lo + h.sl ≤ 240 + 35 * ((i + 1 : Nat) : Int)) ∧ 0 ≤ (endT h w l own i).1.2 + (h.cus[(own[i]!).toNat]!).hi + h.sl ∧ (endT h w l own i).1.2 + (h.cus[(own[i]!).toNat]!).hi + h.sl ≤ 240 + 35 * ((i + 1 : Nat) : Int)
    omega
theorem endsTo_len (h : RHall) (p : List (List Int)) : ∀ n,(endsTo h p n).length = h.cus.length
  | 0 => by unfold endsTo; simp
  | n + 1 => by
    rw [endsTo_succ,← endT_all,endT_len _ _ _ _ _ (Nat.le_refl _)]
    exact endsTo_len h p n
theorem dends_c (h : RHall) (hd : DOk h) (ws cs km hb : Nat) (p : List (List Int)) (hp : p.flatten.length ≤ 1000) (hl : p.length = h.wri.length) (hn : noneP h p = false) (m : Mem) (hm : m hb = some (.cells (hallC h ws cs km))) :
    ACall Tryz.prog 49 [.ptr hb 0,rowsA p] m (fun r m' => r = .slice 2 ((endsR h p).map endA) ∧ m' = m) := by
  refine ACall.forget ?_
  have hwn := hd.n
  have hcm := hd.m
  have hsl := hd.sl
  simp only [hallC,hallL,rowsA,List.cons_append,List.nil_append] at hm ⊢
  (refine acall_intro (E := envC (modeAt [8] [17]) false [14]) (envCOk _ _ _) rfl Tryz.func49 rfl Tryz.call49 (by kernel_rfl) (by simp [Tryz.ntmps49]) ?_; simp only [Tryz.f49];  simp(maxSteps:=9^9)only[↓VX,VQ,seval,hm])
  repeat'(first|intro _|apply And.intro)
  all_goals try first|omega|(simp only[LL];omega)|exact nlC (by decide) _|exact nbC rfl
  rename_i _ lb hlb _
  have hne : hb ≠ lb := by rintro rfl; rw [hm] at hlb; cases hlb
  refine aloop (envCOk _ _ _) (fun w : Nat => ⟨[(0,.v (.ptr hb 0)),(5,.v (.mslice lb 0 h.cus.length h.cus.length)),(18,.v (.slice 1 (p.map ints))),(19,.v (.int .i64 p.length)),(20,.v (.int .i64 w))],[],[],upd m lb (some (.cells (cellsE (endsTo h p w))))⟩)
    (fun w => w ≤ p.length) (fun w => p.length - w) 0 (fun _ => rfl) (by simp) (by (simp only [FE,↓FP,seval]); try simp [endsTo,cellsE_zero]) ?_
  rintro w hw
  have hm1 : upd m lb (some (.cells (cellsE (endsTo h p w)))) hb = _ := (upd_ne _ _ hne).trans hm
  have hL := endsTo_len h p w
  by_cases hlt : w < p.length
  · have hwo := hd.wri w (by omega)
    have ho : ∀ x ∈ p[w]!,0 ≤ x ∧ x ≤ (h.cus.length : Int) - 1 := fun x hx => by
      unfold noneP at hn
      rw [List.any_eq_false] at hn
      have h2 := hn (p[w]!) (by rw [getD_any hlt]; exact List.getElem_mem hlt)
      rw [Bool.not_eq_true,List.any_eq_false] at h2
      have h3 := h2 x hx
      rwa [Bool.not_eq_true,offP_false] at h3
    have hol : (p[w]!).length ≤ 1000 := by
      have : p.flatten = (p.take (w + 1)).flatten ++ (p.drop (w + 1)).flatten := by rw [← List.flatten_append,List.take_append_drop]
      rw [this,List.length_append,List.take_succ_eq_append_getElem hlt,List.flatten_append,List.length_append] at hp
      simp only [List.flatten_cons,List.flatten_nil,List.append_nil,← getD_any hlt] at hp
      omega
    have hb3 := endT_bound hd (show w < h.wri.length by omega) (endsTo h p w) (p[w]!) ho
    have hss := fun i (hi : i < (p[w]!).length) => endT_succ h w (endsTo h p w) (p[w]!) hi
    have hall := endT_all h w (endsTo h p w) (p[w]!)
    have hln := endT_len h w (endsTo h p w) (p[w]!)
    have hsucc := endsTo_succ h p w
    have h0 : endT h w (endsTo h p w) (p[w]!) 0 = (((h.wri[w]!).lo,(h.wri[w]!).hi),endsTo h p w) := rfl
    rw [← hall] at hsucc
    generalize endsTo h p w = L at *
    generalize ho2 : p[w]! = own at *
    simp(maxSteps:=9^9)only[↓VX,VQ,seval,hm,hne,↓ixInts,↓ixWri]
    repeat'(first|intro _|apply And.intro)
    all_goals try first|omega|(simp only[LL];omega)|exact nlC (by decide) _|exact nbC rfl
    rw [ho2]
    refine aloop (envCOk _ _ _) (fun i : Nat => ⟨[(0,.v (.ptr hb 0)),(5,.v (.mslice lb 0 h.cus.length h.cus.length)),(6,.v (.int .i64 w)),(8,.loc 8 0),(18,.v (.slice 1 (p.map ints))),(19,.v (.int .i64 p.length)),(20,.v (.int .i64 w)),(34,.v (.slice 1 (own.map (AV.int .i64)))),(35,.v (.int .i64 own.length)),(36,.v (.int .i64 i))],[],
        [(8,[.int .i64 (endT h w L own i).1.1,.int .i64 (endT h w L own i).1.2])],upd m lb (some (.cells (cellsE (endT h w L own i).2)))⟩)
      (fun i => i ≤ own.length) (fun i => own.length - i) 0 (fun _ => rfl) (by simp) (by (simp only [FE,↓FP,seval]); try simp [h0,overlay,AV.cells]) ?_
    rintro i hi
    have hm2 : upd m lb (some (.cells (cellsE (endT h w L own i).2))) hb = _ := (upd_ne _ _ hne).trans hm
    have hx := hln i hi
    have hbd := hb3 i hi
    have hsi := hss i
    generalize hT : endT h w L own i = T at *
    obtain ⟨⟨s1,s2⟩,L1⟩ := T
    dsimp only at hx hbd hm2
    by_cases hil : i < own.length
    · have hoi := ho (own[i]!) (by rw [getD_any hil]; exact List.getElem_mem _)
      have hc := (hd.cus (own[i]!).toNat (by omega)).2.1
      have hsi := hsi hil
      have hsi : endT h w L own (i + 1) = ((s1 + (h.cus[(own[i]!).toNat]!).lo + h.sl,s2 + (h.cus[(own[i]!).toNat]!).hi + h.sl),L1.set (own[i]!).toNat (s1 + (h.cus[(own[i]!).toNat]!).lo + h.sl,s2 + (h.cus[(own[i]!).toNat]!).hi + h.sl)) := hsi
      have hcs := cellsE_set (l := L1) (k := (own[i]!).toNat) (by omega) (s1 + (h.cus[(own[i]!).toNat]!).lo + h.sl) (s2 + (h.cus[(own[i]!).toNat]!).hi + h.sl)
      have hcl := cellsE_length L1
      simp(maxSteps:=9^9)only[↓VX,VQ,seval,hm,hne,↓ixZ]
      repeat'(first|intro _|apply And.intro)
      all_goals try first|omega|(simp only[LL];omega)|exact nlC (by decide) _|exact nbC rfl
      (refine adraw (by first | exact envOk _ | exact envCOk _ _ _) mixed [⟨false,false,0⟩,⟨false,false,0⟩,⟨false,false,0⟩,⟨false,false,0⟩,⟨false,false,0⟩,⟨false,false,0⟩,⟨false,false,0⟩,⟨false,false,0⟩,⟨false,false,0⟩,⟨false,false,0⟩,⟨false,false,0⟩,⟨false,false,0⟩,⟨false,false,0⟩,⟨false,false,0⟩,⟨false,false,0⟩,⟨false,false,0⟩,⟨false,false,0⟩,⟨false,false,0⟩,⟨false,false,0⟩,⟨false,false,0⟩,⟨false,false,0⟩] (by kernel_rfl) ?_; show vcOpsD _ _ _ (_ :: _) _ _)
      simp(maxSteps:=9^9)only[↓VX,VQ,seval,hm,hne,↓ixCus]
      repeat'(first|intro _|apply And.intro)
      all_goals try first|omega|(simp only[LL];omega)|exact nlC (by decide) _|exact nbC rfl
      (refine adraw (by first | exact envOk _ | exact envCOk _ _ _) mixed [⟨false,false,0⟩,⟨false,false,0⟩,⟨false,false,0⟩,⟨false,false,0⟩,⟨false,false,0⟩,⟨false,false,0⟩,⟨false,false,0⟩,⟨false,false,0⟩,⟨false,false,0⟩,⟨false,false,0⟩,⟨false,false,0⟩,⟨false,false,0⟩,⟨false,false,0⟩,⟨false,false,0⟩,⟨false,false,0⟩,⟨false,false,0⟩,⟨false,false,0⟩,⟨false,false,0⟩,⟨false,false,0⟩,⟨false,false,0⟩,⟨false,false,0⟩] (by kernel_rfl) ?_; show vcOpsD _ _ _ (_ :: _) _ _)
      simp(maxSteps:=9^9)only[↓VX,VQ,seval,hm,hne,↓ixCus]
      repeat'(first|intro _|apply And.intro)
      all_goals try first|omega|(simp only[LL];omega)|exact nlC (by decide) _|exact nbC rfl
      refine ⟨i + 1,by dsimp only; omega,by dsimp only; omega,?_⟩
      (simp only [FE,↓FP,seval])
      rw [hsi]
      simp only [← Int.add_assoc,Int.natCast_add,Int.natCast_one]
      refine ⟨trivial,trivial,?_⟩
      rw [upd_upd]
      exact congrArg (fun c => upd m lb (some (.cells c))) hcs
    · have hie : i = own.length := by omega
      subst hie
      simp(maxSteps:=9^9)only[↓VX,VQ,seval,hm,hne]
      repeat'(first|intro _|apply And.intro)
      all_goals try first|omega|(simp only[LL];omega)|exact nlC (by decide) _|exact nbC rfl
      have hfin : endsTo h p (w + 1) = L1 := by rw [hsucc,hT]
      refine ⟨w + 1,by dsimp only; omega,by dsimp only; omega,?_⟩
      (simp only [FE,↓FP,seval])
      rw [hfin]
      simp
  · have hwe : w = p.length := by omega
    subst hwe
    simp(maxSteps:=9^9)only[↓VX,VQ,seval,hm,hne]
    repeat'(first|intro _|apply And.intro)
    all_goals try first|omega|(simp only[LL];omega)|exact nlC (by decide) _|exact nbC rfl
    refine acut_melt (envCOk _ _ _) (fun _ : Unit => ⟨[(4,.v (.slice 2 ((endsTo h p p.length).map endA)))],[],[],m⟩) (fun _ => True) (fun _ => lb) (fun _ => 2) (fun _ => (endsTo h p p.length).map endA) (fun _ => []) (fun _ => rfl) ?_ ?_
    · show vcOps _ _ (_ :: _) _ _
      simp(maxSteps:=9^9)only[↓VX,VQ,seval]
      refine ⟨(),⟨_,rfl,?_,?_⟩,?_⟩
      · rw [upd_same]; rfl
      · intro e he
        obtain ⟨q,_,rfl⟩ := List.mem_map.1 he
        exact ⟨rfl,rfl⟩
      · simp only [Fits,fitsV,fitsO,fitsL,St.melt,↓upd,↓lookV,↓lookO,↓lookL,Nat.reduceEqDiff,↓reduceIte,ints,and_true,true_and,Option.some.injEq,meltV,meltA,Option.map_some,List.map_cons,List.map_nil]
        rw [if_pos ⟨by rw [List.length_map,hL],by omega,by unfold maxLen; omega⟩]
        exact ⟨rfl,updUndo hlb _⟩
    rintro _ _
    simp(maxSteps:=9^9)only[↓VX,VQ,seval]
    exact ⟨m,fun _ _ h => h,rfl,rfl⟩
theorem enterD_good {h : RHall} {p : List (List Int)} (e : enterD h p = 0) : p.length = h.wri.length ∧ noneP h p = false := by
  unfold enterD at e
  split at e
  · rename_i q; exact absurd e q
  · split at e
    · cases e
    · rename_i q
      split at e
      · cases e
      · rename_i q2
        exact ⟨Decidable.of_not_not q,by simpa using q2⟩
theorem dends_len (h : RHall) (p : List (List Int)) : (endsR h p).length = h.cus.length := endsTo_len h p p.length
theorem sub2 {m : Mem} {a b : Nat} (x y : Option Box) (ha : m a = none) (hb : m b = none) : ∀ k z,m k = some z → upd (upd m a x) b y k = some z := fun k z q => by
  rw [upd_ne _ _ (by rintro rfl; rw [hb] at q; cases q),upd_ne _ _ (by rintro rfl; rw [ha] at q; cases q)]; exact q
theorem dEnds_c (h : RHall) (hs : dnamesFit h) (p : List (List Int)) (hp : p.flatten.length ≤ 1000) :
    PCall Tryz.prog 10 [hallA h,rowsA p] (if enterD h p = 0 then .tuple [.slice 2 ((endsR h p).map endA),.int .i64 0] else .tuple [.slice 2 [],.int .i64 (enterD h p)]) := by
  intro m
  refine ACall.forget ?_
  have he := denter_c h hs p hp m
  simp only [hallA,hallL,rowsA] at he ⊢
  (refine acall_intro (E := env fun _ => .imm) (envOk _) rfl Tryz.func10 rfl Tryz.call10 (by kernel_rfl) (by simp [Tryz.ntmps10]) ?_; simp only [Tryz.f10];  simp(maxSteps:=9^9)only[↓VX,VQ,seval])
  repeat'(first|intro _|apply And.intro)
  refine ACall.told he ?_
  rintro r m1 (⟨e,rfl,rfl⟩ | ⟨e,hd,hb,km,rfl,g1,g2,g3,rfl⟩)
  · rw [if_neg e]
    simp(maxSteps:=9^9)only[↓VX,VQ,seval]
    repeat'(first|intro _|apply And.intro)
    · exact ⟨m1,fun _ _ q => q,rfl⟩
    · exact absurd e (by assumption)
  · obtain ⟨o1,o2⟩ := enterD_good e
    have hen := dends_c h hd (2 ^ h.wri.length - 1) (2 ^ h.cus.length - 1) km hb p hp o1 o2 _ (upd_same (upd m km (some (.map []))) hb _)
    have hsub := sub2 (some (.map [])) (some (.cells (hallC h (2 ^ h.wri.length - 1) (2 ^ h.cus.length - 1) km))) g2 g1
    simp only [rowsA] at hen
    rw [if_pos e]
    generalize upd (upd m km (some (.map []))) hb (some (.cells (hallC h (2 ^ h.wri.length - 1) (2 ^ h.cus.length - 1) km))) = m1 at *
    simp(maxSteps:=9^9)only[↓VX,VQ,seval]
    refine ACall.told hen ?_
    rintro r m2 ⟨rfl,rfl⟩
    simp(maxSteps:=9^9)only[↓VX,VQ,seval]
    exact ⟨m,hsub,rfl⟩
theorem ixEnd (l : List (Int × Int)) (i : Int) (K : AV → Prop) : VIdx (l.map endA) i K ↔ (0 ≤ i ∧ i.toNat < l.length) ∧ K (.agg [.int .i64 (l[i.toNat]!).1,.int .i64 (l[i.toNat]!).2]) := VIdx_map endA l i K
theorem any_range_succ (f : Nat → Bool) (k : Nat) : (List.range (k + 1)).any f = ((List.range k).any f || f k) := by
  rw [List.range_succ,List.any_append]; simp
theorem any_range_at {f : Nat → Bool} {n k : Nat} (hk : k < n) (h : f k = true) : (List.range n).any f = true := List.any_eq_true.2 ⟨k,List.mem_range.2 hk,h⟩
theorem dFate_c (h : RHall) (hs : dnamesFit h) (p : List (List Int)) (hp : p.flatten.length ≤ 1000) :
    PCall Tryz.prog 30 [hallA h,rowsA p] (.tuple [.int .i64 (fateD h p).1,.int .i64 (fateD h p).2]) := by
  intro m
  refine ACall.forget ?_
  have he := denter_c h hs p hp m
  have eF : fateD h p = if enterD h p ≠ 0 then (0,enterD h p) else if ((List.range h.cus.length).any fun c => decide ((h.cus[c]!).ship < ((endsR h p)[c]!).1)) = true then (2,0)
    else if ((List.range h.cus.length).any fun c => decide ((h.cus[c]!).ship < ((endsR h p)[c]!).2)) = true then (0,0) else (1,0) := rfl
  generalize fateD h p = F at *
  simp only [hallA,hallL,rowsA] at he ⊢
  (refine acall_intro (E := envC (modeAt [10] []) false []) (envCOk _ _ _) rfl Tryz.func30 rfl Tryz.call30 (by kernel_rfl) (by simp [Tryz.ntmps30]) ?_; simp only [Tryz.f30];  simp(maxSteps:=9^9)only[↓VX,VQ,seval])
  repeat'(first|intro _|apply And.intro)
  refine ACall.told he ?_
  rintro r m1 (⟨e,rfl,rfl⟩ | ⟨e,hd,hb,km,rfl,g1,g2,g3,rfl⟩)
  · rw [if_pos e] at eF
    subst eF
    simp(maxSteps:=9^9)only[↓VX,VQ,seval]
    repeat'(first|intro _|apply And.intro)
    · exact ⟨m1,fun _ _ q => q,rfl⟩
    · exact absurd e (by assumption)
  · obtain ⟨o1,o2⟩ := enterD_good e
    have hen := dends_c h hd (2 ^ h.wri.length - 1) (2 ^ h.cus.length - 1) km hb p hp o1 o2 _ (upd_same (upd m km (some (.map []))) hb _)
    have hsub := sub2 (some (.map [])) (some (.cells (hallC h (2 ^ h.wri.length - 1) (2 ^ h.cus.length - 1) km))) g2 g1
    simp only [rowsA] at hen
    rw [if_neg (by omega)] at eF
    generalize upd (upd m km (some (.map []))) hb (some (.cells (hallC h (2 ^ h.wri.length - 1) (2 ^ h.cus.length - 1) km))) = m1 at *
    simp(maxSteps:=9^9)only[↓VX,VQ,seval]
    refine ACall.told hen ?_
    rintro r m2 ⟨rfl,rfl⟩
    have hln := dends_len h p
    generalize endsR h p = L at *
    have hmn := hd.m
    simp(maxSteps:=9^9)only[↓VX,VQ,seval]
    repeat'(first|intro _|apply And.intro)
    all_goals try first|omega|(simp only[LL];omega)|exact nlC (by decide) _|exact nbC rfl
    refine aloop (envCOk _ _ _) (fun k : Nat => ⟨[(2,.v (.eptr [.int .i64 h.sl,.slice 4 (h.wri.map wriA),.slice 5 (h.cus.map cusA)])),(8,.v (.int .i64 (if ((List.range k).any fun c => decide ((h.cus[c]!).ship < (L[c]!).2)) = true then 0 else 1))),(23,.v (.slice 2 (L.map endA))),(24,.v (.int .i64 L.length)),(25,.v (.int .i64 k))],[],[],m2⟩)
      (fun k => k ≤ L.length ∧ ((List.range k).any fun c => decide ((h.cus[c]!).ship < (L[c]!).1)) = false) (fun k => L.length - k) 0 (fun _ => rfl) (by simp) (by (simp only [FE,↓FP,seval]); try simp) ?_
    rintro k ⟨hk,hka⟩
    have hA := any_range_succ (fun c => decide ((h.cus[c]!).ship < (L[c]!).1)) k
    have hB := any_range_succ (fun c => decide ((h.cus[c]!).ship < (L[c]!).2)) k
    have hAt : k < L.length → (h.cus[k]!).ship < (L[k]!).1 → ((List.range h.cus.length).any fun c => decide ((h.cus[c]!).ship < (L[c]!).1)) = true := fun q1 q2 => any_range_at (by omega) (decide_eq_true q2)
    by_cases hlt : k < L.length
    · rw [hka,Bool.false_or] at hA
      have hAt := hAt hlt
      generalize hBk : ((List.range k).any fun c => decide ((h.cus[c]!).ship < (L[c]!).2)) = B at *
      simp(maxSteps:=9^9)only[↓VX,VQ,seval,↓ixEnd,↓ixCus]
      repeat'(first|intro _|apply And.intro)
      all_goals try first|omega|(simp only[LL];omega)|exact nlC (by decide) _|exact nbC rfl
      · have q := hAt (by assumption)
        rw [if_pos q] at eF
        subst eF
        exact ⟨m,hsub,rfl,rfl⟩
      · have q1 : ¬ (h.cus[k]!).ship < (L[k]!).1 := by assumption
        have q2 : (h.cus[k]!).ship < (L[k]!).2 := by assumption
        rw [decide_eq_true q2,Bool.or_true] at hB
        refine ⟨k + 1,⟨by omega,by rw [hA]; exact decide_eq_false q1⟩,by dsimp only; omega,?_⟩
        (simp only [FE,↓FP,seval])
        rw [hB]
        simp
      · have q1 : ¬ (h.cus[k]!).ship < (L[k]!).1 := by assumption
        have q2 : ¬ (h.cus[k]!).ship < (L[k]!).2 := by assumption
        rw [decide_eq_false q2,Bool.or_false] at hB
        refine ⟨k + 1,⟨by omega,by rw [hA]; exact decide_eq_false q1⟩,by dsimp only; omega,?_⟩
        (simp only [FE,↓FP,seval])
        rw [hB]
        simp
    · have hke : k = h.cus.length := by omega
      subst hke
      rw [hka,if_neg (by decide)] at eF
      simp(maxSteps:=9^9)only[↓VX,VQ,seval]
      repeat'(first|intro _|apply And.intro)
      all_goals try first|omega|(simp only[LL];omega)|exact nlC (by decide) _|exact nbC rfl
      refine ⟨m,hsub,?_⟩
      subst eF
      split <;> exact ⟨rfl,rfl⟩
theorem spansT_c (l : List (Int × Int)) : PCall Tryz.prog 35 [.slice 2 (l.map endA),.slice 2 (l.map endA)] (.bool true) := by
  intro m
  (refine acall_len Tryz.call35 fun hlen => ?_; refine acall_intro (E := env fun _ => .imm) (envOk _) rfl Tryz.func35 rfl Tryz.call35 (by kernel_rfl) (by simp [Tryz.ntmps35]) ?_; simp only [Tryz.f35];  simp(maxSteps:=9^9)only[↓VX,VQ,seval])
  simp only [lenOk_cons,lenOk_nil,List.length_map,and_true,maxLen_eq] at hlen
  repeat'(first|intro _|apply And.intro)
  refine aloop (envOk _) (fun k : Nat => ⟨[(0,.v (.slice 2 (l.map endA))),(1,.v (.slice 2 (l.map endA))),(5,.v (.bool true)),(6,.v (.int .i64 k))],[],[],m⟩)
    (fun k => k ≤ l.length) (fun k => l.length - k) 0 (fun _ => rfl) (by simp) (by (simp only [FE,↓FP,seval]); try simp) ?_
  rintro k hk
  by_cases hlt : k < l.length
  · have he := eqFlatSpan4 (l[k]!).1 (l[k]!).2 (l[k]!).1 (l[k]!).2
    have hec : eqCells [.int .i64 (l[k]!).1,.int .i64 (l[k]!).2] [.int .i64 (l[k]!).1,.int .i64 (l[k]!).2] = some true := by simp [eqCells]
    simp only [decide_true,Bool.and_true] at he
    simp(maxSteps:=9^9)only[↓VX,VQ,seval]
    repeat'(first|intro _|apply And.intro)
    all_goals try first|omega|(simp only[LL];omega)|exact nlC (by decide) _|exact nbC rfl
    (refine adraw (by first | exact envOk _ | exact envCOk _ _ _) mixed [⟨false,false,0⟩,⟨false,false,0⟩,⟨false,false,0⟩,⟨false,false,0⟩,⟨false,false,0⟩,⟨false,false,0⟩,⟨false,false,0⟩,⟨false,false,0⟩,⟨false,false,0⟩,⟨false,false,0⟩] (by kernel_rfl) ?_; show vcOpsD _ _ _ (_ :: _) _ _)
    simp(maxSteps:=9^9)only[↓VX,VQ,seval,↓ixEnd,hec]
    refine ⟨⟨by omega,by omega⟩,⟨by omega,by omega⟩,he,⟨by omega,by omega⟩,?_⟩
    refine ⟨k + 1,by omega,by dsimp only; omega,?_⟩
    (simp only [FE,↓FP,seval])
    simp
  · have hke : k = l.length := by omega
    subst hke
    simp(maxSteps:=9^9)only[↓VX,VQ,seval]
    repeat'(first|intro _|apply And.intro)
    all_goals try first|omega|(simp only[LL];omega)|exact nlC (by decide) _|exact nbC rfl
    trivial
theorem rowsT_c (p : List (List Int)) : PCall Tryz.prog 37 [rowsA p,rowsA p] (.bool true) := by
  intro m
  have hin := intsT4_c
  simp only [rowsA,ints] at hin ⊢
  (refine acall_len Tryz.call37 fun hlen => ?_; refine acall_intro (E := env fun _ => .imm) (envOk _) rfl Tryz.func37 rfl Tryz.call37 (by kernel_rfl) (by simp [Tryz.ntmps37]) ?_; simp only [Tryz.f37];  simp(maxSteps:=9^9)only[↓VX,VQ,seval])
  simp only [lenOk_cons,lenOk_nil,List.length_map,and_true,maxLen_eq] at hlen
  repeat'(first|intro _|apply And.intro)
  refine aloop (envOk _) (fun k : Nat => ⟨[(0,.v (.slice 1 (p.map ints))),(1,.v (.slice 1 (p.map ints))),(5,.v (.bool true)),(6,.v (.int .i64 k))],[],[],m⟩)
    (fun k => k ≤ p.length) (fun k => p.length - k) 0 (fun _ => rfl) (by simp) (by (simp only [FE,↓FP,seval]); try simp [ints]) ?_
  rintro k hk
  by_cases hlt : k < p.length
  · have hi := hin (p[k]!)
    simp(maxSteps:=9^9)only[↓VX,VQ,seval]
    repeat'(first|intro _|apply And.intro)
    all_goals try first|omega|(simp only[LL];omega)|exact nlC (by decide) _|exact nbC rfl
    (refine adraw (by first | exact envOk _ | exact envCOk _ _ _) mixed [⟨false,false,0⟩,⟨false,false,0⟩,⟨false,false,0⟩,⟨false,false,0⟩,⟨false,false,0⟩,⟨false,false,0⟩,⟨false,false,0⟩,⟨false,false,0⟩,⟨false,false,0⟩,⟨false,false,0⟩] (by kernel_rfl) ?_; show vcOpsD _ _ _ (_ :: _) _ _)
    simp(maxSteps:=9^9)only[↓VX,VQ,seval,↓ixInts]
    repeat'(first|intro _|apply And.intro)
    all_goals try first|omega|(simp only[LL];omega)|exact nlC (by decide) _|exact nbC rfl
    (refine ⟨_,.inl (hi),?_⟩; try simp(maxSteps:=9^9)only[↓VX,VQ,seval])
    repeat'(first|intro _|apply And.intro)
    all_goals try first|omega|(simp only[LL];omega)|exact nlC (by decide) _|exact nbC rfl
    refine ⟨k + 1,by omega,by dsimp only; omega,?_⟩
    (simp only [FE,↓FP,seval])
    simp
  · have hke : k = p.length := by omega
    subst hke
    simp(maxSteps:=9^9)only[↓VX,VQ,seval]
    repeat'(first|intro _|apply And.intro)
    all_goals try first|omega|(simp only[LL];omega)|exact nlC (by decide) _|exact nbC rfl
    trivial
theorem lateTo_lt (h : RHall) (l : List (Int × Int)) : ∀ n : Nat,-1 ≤ lateTo h l n ∧ lateTo h l n < n
  | 0 => ⟨Int.le_refl _,by show (-1 : Int) < 0; decide⟩
  | n + 1 => by
    have ih := lateTo_lt h l n
    unfold lateTo
    split <;> omega
theorem dLate_c (h : RHall) (hs : dnamesFit h) (p : List (List Int)) (hp : p.flatten.length ≤ 1000) :
    PCall Tryz.prog 31 [hallA h,rowsA p] (.tuple [.int .i64 (lateR h p).1,.int .i64 (lateR h p).2]) := by
  intro m
  refine ACall.forget ?_
  have he := denter_c h hs p hp m
  have eF : lateR h p = if enterD h p ≠ 0 then (0,enterD h p) else if lateTo h (endsR h p) h.cus.length < 0 then (0,9) else (lateTo h (endsR h p) h.cus.length,0) := rfl
  generalize lateR h p = F at *
  simp only [hallA,hallL,rowsA] at he ⊢
  (refine acall_intro (E := envC (modeAt [10] []) false []) (envCOk _ _ _) rfl Tryz.func31 rfl Tryz.call31 (by kernel_rfl) (by simp [Tryz.ntmps31]) ?_; simp only [Tryz.f31];  simp(maxSteps:=9^9)only[↓VX,VQ,seval])
  repeat'(first|intro _|apply And.intro)
  refine ACall.told he ?_
  rintro r m1 (⟨e,rfl,rfl⟩ | ⟨e,hd,hb,km,rfl,g1,g2,g3,rfl⟩)
  · rw [if_pos e] at eF
    subst eF
    simp(maxSteps:=9^9)only[↓VX,VQ,seval]
    repeat'(first|intro _|apply And.intro)
    · exact ⟨m1,fun _ _ q => q,rfl⟩
    · exact absurd e (by assumption)
  · obtain ⟨o1,o2⟩ := enterD_good e
    have hen := dends_c h hd (2 ^ h.wri.length - 1) (2 ^ h.cus.length - 1) km hb p hp o1 o2 _ (upd_same (upd m km (some (.map []))) hb _)
    have hsub := sub2 (some (.map [])) (some (.cells (hallC h (2 ^ h.wri.length - 1) (2 ^ h.cus.length - 1) km))) g2 g1
    simp only [rowsA] at hen
    rw [if_neg (by omega)] at eF
    generalize upd (upd m km (some (.map []))) hb (some (.cells (hallC h (2 ^ h.wri.length - 1) (2 ^ h.cus.length - 1) km))) = m1 at *
    simp(maxSteps:=9^9)only[↓VX,VQ,seval]
    refine ACall.told hen ?_
    rintro r m2 ⟨rfl,rfl⟩
    have hln := dends_len h p
    generalize endsR h p = L at *
    have hmn := hd.m
    simp(maxSteps:=9^9)only[↓VX,VQ,seval]
    repeat'(first|intro _|apply And.intro)
    all_goals try first|omega|(simp only[LL];omega)|exact nlC (by decide) _|exact nbC rfl
    refine aloop (envCOk _ _ _) (fun k : Nat => ⟨[(2,.v (.eptr [.int .i64 h.sl,.slice 4 (h.wri.map wriA),.slice 5 (h.cus.map cusA)])),(8,.v (.int .i64 (lateTo h L k))),(23,.v (.slice 2 (L.map endA))),(24,.v (.int .i64 L.length)),(25,.v (.int .i64 k))],[],[],m2⟩)
      (fun k => k ≤ L.length) (fun k => L.length - k) 0 (fun _ => rfl) (by simp) (by (simp only [FE,↓FP,seval]); try simp [lateTo]) ?_
    rintro k hk
    have hA : lateTo h L (k + 1) = if (h.cus[k]!).ship < (L[k]!).2 ∧ (lateTo h L k < 0 ∨ (h.cus[k]!).ship < (h.cus[(lateTo h L k).toNat]!).ship) then (k : Int) else lateTo h L k := rfl
    have hB := lateTo_lt h L k
    by_cases hlt : k < L.length
    · generalize lateTo h L k = B at *
      simp(maxSteps:=9^9)only[↓VX,VQ,seval,↓ixEnd,↓ixCus]
      repeat'(first|intro _|apply And.intro)
      all_goals try first|omega|(simp only[LL];omega)|exact nlC (by decide) _|exact nbC rfl
      all_goals
        first
        | rw [if_pos (by omega)] at hA
        | rw [if_neg (by omega)] at hA
        refine ⟨k + 1,by omega,by dsimp only; omega,?_⟩
        (simp only [FE,↓FP,seval])
        rw [hA]
        simp
    · have hke : k = h.cus.length := by omega
      subst hke
      generalize lateTo h L h.cus.length = B at *
      simp(maxSteps:=9^9)only[↓VX,VQ,seval]
      repeat'(first|intro _|apply And.intro)
      all_goals try first|omega|(simp only[LL];omega)|exact nlC (by decide) _|exact nbC rfl
      · rw [if_pos (by assumption)] at eF
        subst eF
        exact ⟨m,hsub,rfl,rfl⟩
      · rw [if_neg (by assumption)] at eF
        subst eF
        exact ⟨m,hsub,rfl,rfl⟩
end Go.Proofs.YteppmjlfpniiaaaGreat.Abs
