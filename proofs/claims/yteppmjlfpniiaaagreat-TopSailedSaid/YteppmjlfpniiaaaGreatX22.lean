/- Lemmas for the statements of this seat (X22): they hold without conditions beyond those that each one states. -/
import Derived.Test.YteppmjlfpniiaaaGreatX20
import Derived.Test.YteppmjlfpniiaaaGreatX21
import Derived.Test.YteppmjlfpniiaaaGreatX17
import Derived.Test.YteppmjlfpniiaaaGreatX8
/- Contracts: whether there is a plan. -/
namespace Go.Proofs.YteppmjlfpniiaaaGreat.Abs
set_option linter.unusedSimpArgs false
set_option maxHeartbeats 4000000
set_option maxRecDepth 100000
open Go Go.RowKit Go.Proofs
theorem sub2' {m : Mem} {a b : Nat} (x y : Option Box) (ha : m a = none) (hb : m b = none) : ∀ k z,m k = some z → upd (upd m a x) b y k = some z := fun k z q => by
  rw [upd_ne _ _ (by rintro rfl; rw [hb] at q; cases q),upd_ne _ _ (by rintro rfl; rw [ha] at q; cases q)]; exact q
theorem dsome_e (h : RHall) (hd : DOk h) (ws0 cs0 km0 ws cs : Nat) (hws : ws < 8) (hcs : cs < 32) :
    PCall Tryz.prog 70 [.eptr (hallC h ws0 cs0 km0),.int .i64 ws,.int .i64 cs] (.bool (someD h ws cs)) := by
  intro m
  refine ACall.forget ?_
  have hlk := dlook_c h hd.n hd.m m
  have eS : someD h ws cs = ((decide (begT h = [0,0,0]) && decide (cs = 0)) || decide (0 ≤ overD h ws cs (begS h))) := rfl
  obtain ⟨E,hE⟩ : ∃ E,decide (begT h = [0,0,0]) = E := ⟨_,rfl⟩
  rw [hE] at eS
  generalize someD h ws cs = V at *
  simp only [hallA,hallC,hallL,List.cons_append,List.nil_append] at hlk ⊢
  (refine acall_intro (E := envC (modeAt [8] []) false []) (envCOk _ _ _) rfl Tryz.func70 rfl Tryz.call70 (by kernel_rfl) (by simp [Tryz.ntmps70]) ?_; simp only [Tryz.f70];  simp(maxSteps:=9^9)only[↓VX,VQ,seval,])
  repeat'(first|intro _|apply And.intro)
  refine ACall.told hlk ?_
  rintro r m1 ⟨hb,km,rfl,g1,g2,g3,rfl⟩
  simp(maxSteps:=9^9)only[↓VX,VQ,seval,g3,g3.symm]
  repeat'(first|intro _|apply And.intro)
  all_goals try first|omega|(simp only[LL];omega)|exact nlC (by decide) _|exact nbC rfl
  rw [upd_upd,upd_upd]
  have hbeg := dbegin_c h hd ws cs km hb (upd (upd m km (some (.map []))) hb (some (.cells (hallC h ws cs km)))) (upd_same _ _ _)
  have hov := dover_c h hd ws cs km hb hws hcs (leftD h (begS h) + 1) (begS h) (stok_begin h hd) (Nat.lt_succ_self _) [] (upd (upd m km (some (.map []))) hb (some (.cells (hallC h ws cs km)))) (fun _ h => by cases h) (upd_same _ _ _) (by rw [upd_ne _ _ g3.symm,upd_same]; rfl)
  have hsub := sub2' (some (.map [])) (some (.cells (hallC h ws cs km))) g2 g1
  have hkm : m km = none := g2
  refine ACall.told hbeg ?_
  rintro r m2 ⟨rfl,rfl⟩
  generalize upd (upd m km (some (.map []))) hb (some (.cells (hallC h ws cs km))) = m1 at *
  have hef := eqFlatStand (begS h) ⟨0,0,[0,0,0]⟩ (stok_begin h hd).n rfl
  have hdec : decide (begS h = (⟨0,0,[0,0,0]⟩ : Stand)) = decide (begT h = [0,0,0]) := by
    rw [decide_eq_decide]
    unfold begS
    constructor
    · intro e; injection e
    · intro e; rw [e]
  have hec : eqCells [.int .i64 ((begS h).w : Int),.int .i64 ((begS h).done : Int),.int .i64 (begS h).at_[0]!,.int .i64 (begS h).at_[1]!,.int .i64 (begS h).at_[2]!] [.int .i64 0,.int .i64 0,.int .i64 0,.int .i64 0,.int .i64 0] = some (decide (begS h = (⟨0,0,[0,0,0]⟩ : Stand))) := by
    rw [← stand_ext (stok_begin h hd).n rfl]
    simp [eqCells]
  have hz : standL ⟨0,0,[0,0,0]⟩ = [.int .i64 0,.int .i64 0,.int .i64 0,.int .i64 0,.int .i64 0] := rfl
  rw [hz] at hef
  rw [hdec,hE] at hef hec
  simp only [standA,standL] at hov hef ⊢
  simp(maxSteps:=9^9)only[↓VX,VQ,seval,hec]
  refine ⟨hef,?_⟩
  repeat'(first|intro _|apply And.intro)
  all_goals try first|omega|(simp only[LL];omega)|exact nlC (by decide) _|exact nbC rfl
  · have q : ¬ (cs : Int) = 0 := by assumption
    rw [decide_eq_false (show ¬ cs = 0 by omega),Bool.and_false,Bool.false_or] at eS
    subst eS
    refine ACall.told hov ?_
    rintro r m2 ⟨rfl,_,kk⟩
    have hsub2 : ∀ k z,m k = some z → m2 k = some z := fun k z q => kk k z (by rintro rfl; rw [hkm] at q; cases q) (hsub k z q)
    simp(maxSteps:=9^9)only[↓VX,VQ,seval]
    exact ⟨m,hsub2,rfl⟩
  · have q : ¬ ¬ (cs : Int) = 0 := by assumption
    have qe : E = true := by assumption
    rw [decide_eq_true (show cs = 0 by omega),qe,Bool.and_true,Bool.true_or] at eS
    subst eS
    exact ⟨m,hsub,rfl,rfl⟩
  · have qe : ¬ E = true := by assumption
    rw [Bool.not_eq_true] at qe
    rw [qe,Bool.false_and,Bool.false_or] at eS
    subst eS
    refine ACall.told hov ?_
    rintro r m2 ⟨rfl,_,kk⟩
    have hsub2 : ∀ k z,m k = some z → m2 k = some z := fun k z q => kk k z (by rintro rfl; rw [hkm] at q; cases q) (hsub k z q)
    simp(maxSteps:=9^9)only[↓VX,VQ,seval]
    exact ⟨m,hsub2,rfl⟩
theorem flat_zero : ∀ n : Nat,(List.replicate n [AV.int .i64 0]).flatten = List.replicate n (.int .i64 0)
  | 0 => rfl
  | n + 1 => by rw [List.replicate_succ,List.flatten_cons,flat_zero n]; rfl
theorem flat_ints' (l : List Int) : ((l.map (AV.int .i64)).map AV.cells).flatten = l.map (AV.int .i64) := by
  induction l with
  | nil => rfl
  | cons x l ih => simp only [List.map_cons,List.flatten_cons,ih]; rfl
theorem overlay_next (A : List AV) (k : Nat) (z x : AV) : overlay (A ++ List.replicate (k + 1) z) A.length [x] = A ++ [x] ++ List.replicate k z := by
  unfold overlay
  rw [List.take_left',List.replicate_succ,List.drop_append]
  · simp
  · rfl
theorem numbers_c (s n : Nat) (hs : s < 32) (h0 : 0 < n) (hn : n ≤ 5) : PCall Tryz.prog 105 [.int .i64 s,.int .i64 n] (ints (listTo s n)) := by
  intro m
  refine ACall.forget ?_
  simp only [ints]
  (refine acall_intro (E := envC (modeAt [] [9]) false [7,9]) (envCOk _ _ _) rfl Tryz.func105 rfl Tryz.call105 (by kernel_rfl) (by simp [Tryz.ntmps105]) ?_; simp only [Tryz.f105];  simp(maxSteps:=9^9)only[↓VX,VQ,seval,])
  repeat'(first|intro _|apply And.intro)
  all_goals try first|omega|(simp only[LL];omega)|exact nlC (by decide) _|exact nbC rfl
  rename_i lb hlb
  refine aloop (envCOk _ _ _) (fun i : Nat => ⟨[(0,.v (.int .i64 s)),(5,.v (.mslice lb 0 n n)),(6,.v (.int .i64 (listTo s i).length)),(10,.v (.int .i64 n)),(11,.v (.int .i64 i))],[],[],upd m lb (some (.cells ((listTo s i).map (AV.int .i64) ++ List.replicate (n - (listTo s i).length) (.int .i64 0))))⟩)
    (fun i => i ≤ n) (fun i => n - i) 0 (fun _ => rfl) (by simp) (by (simp only [FE,↓FP,seval]); try simp [listTo,flat_zero]) ?_
  rintro i hi
  have hll := listTo_length s i
  have hsu := listTo_succ s i
  have hb := bit01 s i
  have hk1 : s / 2 ^ i ≤ s := Nat.div_le_self _ _
  by_cases hlt : i < n
  · rcases Bool.eq_false_or_eq_true (s.testBit i) with q | q
    · rw [q,if_pos rfl] at hsu
      rw [q,if_pos rfl] at hb
      generalize listTo s i = T at *
      have hT : (T.map (AV.int .i64) ++ List.replicate (n - T.length) (AV.int .i64 0)).length = n := by rw [List.length_append,List.length_map,List.length_replicate]; omega
      simp(maxSteps:=9^9)only[↓VX,VQ,seval]
      repeat'(first|intro _|apply And.intro)
      all_goals try first|omega|(simp only[LL];omega)|exact nlC (by decide) _|exact nbC rfl
      all_goals try (exfalso; simp_all; done)
      refine acut_at_k 6 (envCOk _ _ _) (V := vcCopyT _) (fun h hd _ _ _ hi hf hs _ _ _ hn => vcCopyT_sound (envCOk _ _ _) h hd hi hf hs hn) rfl rfl (fun _ : Unit => ⟨[(0,.v (.int .i64 s)),(5,.v (.mslice lb 0 n n)),(6,.v (.int .i64 (T.length + 1))),(10,.v (.int .i64 n)),(11,.v (.int .i64 i))],[],[],upd m lb (some (.cells ((T ++ [(i : Int)]).map (AV.int .i64) ++ List.replicate (n - (T.length + 1)) (.int .i64 0))))⟩) (fun _ => True) (fun _ => rfl) ?_ ?_
      · show vcOps _ _ (_ :: _) _ _
        simp(maxSteps:=9^9)only[↓VX,VQ,seval,List.take_succ_cons,List.take_zero,vcCopyT]
        repeat'(first|intro _|apply And.intro)
        all_goals try first|omega|(simp only[LL];omega)|exact nlC (by decide) _|exact nbC rfl
        all_goals try (rw [hT]; omega)
        · refine ⟨(),?_⟩
          have hov := overlay_next (T.map (AV.int .i64)) (n - (T.length + 1)) (.int .i64 0) (.int .i64 i)
          rw [List.length_map,show n - (T.length + 1) + 1 = n - T.length by omega] at hov
          (simp only [FE,↓FP,seval])
          rw [List.map_append]
          rw [upd_upd,show [[AV.int .i64 (i : Int)]].flatten = [AV.int .i64 (i : Int)] from rfl]
          exact congrArg (fun c => upd m lb (some (.cells c))) hov
      · rintro _ _
        simp(maxSteps:=9^9)only[↓VX,VQ,seval]
        repeat'(first|intro _|apply And.intro)
        all_goals try first|omega|(simp only[LL];omega)|exact nlC (by decide) _|exact nbC rfl
        refine ⟨i + 1,by omega,by dsimp only; omega,?_⟩
        (simp only [FE,↓FP,seval])
        rw [hsu]
        simp
    · rw [q,if_neg (by decide)] at hsu
      rw [q,if_neg (by decide)] at hb
      simp(maxSteps:=9^9)only[↓VX,VQ,seval]
      repeat'(first|intro _|apply And.intro)
      all_goals try first|omega|(simp only[LL];omega)|exact nlC (by decide) _|exact nbC rfl
      all_goals try (exfalso; simp_all; done)
      refine ⟨i + 1,by omega,by dsimp only; omega,?_⟩
      (simp only [FE,↓FP,seval])
      rw [hsu]
      simp
  · have hie : i = n := by omega
    subst hie
    simp(maxSteps:=9^9)only[↓VX,VQ,seval]
    repeat'(first|intro _|apply And.intro)
    all_goals try first|omega|(simp only[LL];omega)|exact nlC (by decide) _|exact nbC rfl
    refine acut_melt (envCOk _ _ _) (fun _ : Unit => ⟨[(4,.v (ints (listTo s i)))],[],[],m⟩) (fun _ => True) (fun _ => lb) (fun _ => 1) (fun _ => (listTo s i).map (AV.int .i64)) (fun _ => List.replicate (i - (listTo s i).length) (.int .i64 0)) (fun _ => rfl) ?_ ?_
    · show vcOps _ _ (_ :: _) _ _
      simp(maxSteps:=9^9)only[↓VX,VQ,seval]
      repeat'(first|intro _|apply And.intro)
      all_goals try first|omega|(simp only[LL];omega)|exact nlC (by decide) _|exact nbC rfl
      refine ⟨(),⟨_,rfl,?_,?_⟩,?_⟩
      · rw [upd_same,flat_ints']
      · intro e he
        obtain ⟨q,_,rfl⟩ := List.mem_map.1 he
        exact ⟨rfl,rfl⟩
      · simp only [Fits,fitsV,fitsO,fitsL,St.melt,↓upd,↓lookV,↓lookO,↓lookL,Nat.reduceEqDiff,↓reduceIte,ints,and_true,true_and,Option.some.injEq,meltV,meltA,Option.map_some,List.map_cons,List.map_nil]
        rw [if_pos ⟨by rw [List.length_map]; omega,by omega,by unfold maxLen; omega⟩]
        exact ⟨rfl,updUndo hlb _⟩
    rintro _ _
    simp(maxSteps:=9^9)only[↓VX,VQ,seval]
    exact ⟨m,fun _ _ h => h,rfl⟩
theorem findF_length (h : RHall) (ws cs : Nat) (o : Int) : ∀ (f : Nat) (x : Stand),(findF h ws cs o f x).length ≤ f
  | 0,_ => Nat.le_refl _
  | f + 1,x => by
    unfold findF
    split
    · exact Nat.zero_le _
    · split
      · rw [List.length_cons]; exact Nat.succ_le_succ (findF_length h ws cs o f _)
      · exact Nat.zero_le _
theorem planStep_len (s : Nat × List (List Int)) (c : Int) : (planStep s c).2.length = s.2.length := by
  unfold planStep; split
  · rfl
  · rw [List.length_set]
theorem planFold_len : ∀ (l : List Int) (s : Nat × List (List Int)),(l.foldl planStep s).2.length = s.2.length
  | [],_ => rfl
  | c :: l,s => by rw [List.foldl_cons,planFold_len l,planStep_len]
theorem planStep_next {h : RHall} {ws cs : Nat} {x : Stand} (p : List (List Int)) {y : Int × Stand} (hy : y ∈ nxtD h ws cs x) : (planStep (x.w,p) y.1).1 = y.2.w := by
  obtain ⟨_,e | ⟨c,_,_,e⟩⟩ := mem_nxtD.1 hy
  · subst e; rfl
  · subst e
    unfold planStep
    rw [if_neg (by omega)]; rfl
theorem planStep_row (s : Nat × List (List Int)) (c : Int) (w : Nat) : ((planStep s c).2[w]!).length ≤ (s.2[w]!).length + 1 := by
  unfold planStep
  split
  · show (s.2[w]!).length ≤ _; omega
  · show ((s.2.set s.1 (s.2[s.1]! ++ [c]))[w]!).length ≤ _
    by_cases hl : s.1 < s.2.length
    · rw [getD_set hl]
      split
      · rename_i e
        rw [← e,List.length_append]; exact Nat.le_refl _
      · omega
    · rw [List.set_eq_of_length_le (by omega)]; omega
theorem planFold_row : ∀ (l : List Int) (s : Nat × List (List Int)) (w : Nat),((l.foldl planStep s).2[w]!).length ≤ (s.2[w]!).length + l.length
  | [],s,w => Nat.le_refl _
  | c :: l,s,w => by
    rw [List.foldl_cons]
    have h1 := planFold_row l (planStep s c) w
    have h2 := planStep_row s c w
    rw [List.length_cons]; omega
theorem overlay_one {l : List AV} {i : Nat} (hi : i < l.length) (x : AV) : overlay l i [x] = l.set i x := by
  unfold overlay
  rw [List.set_eq_take_append_cons_drop,if_pos hi,List.append_assoc]
  rfl
theorem plan_prefix {h : RHall} {ws cs : Nat} {o : Int} : ∀ (f : Nat) (x : Stand) (p : List (List Int)),x.w ≤ h.wri.length → ∀ k,k < (findF h ws cs o f x).length →
    (((findF h ws cs o f x).take k).foldl planStep (x.w,p)).1 ≤ h.wri.length ∧ (0 ≤ (findF h ws cs o f x)[k]! → (((findF h ws cs o f x).take k).foldl planStep (x.w,p)).1 < h.wri.length)
  | 0,x,p,_,k,hk => by cases hk
  | f + 1,x,p,hx,k,hk => by
    unfold findF at hk ⊢
    by_cases q : x.w = h.wri.length
    · rw [if_pos q] at hk; cases hk
    · rw [if_neg q] at hk ⊢
      cases hfind : (nxtD h ws cs x).find? (fun y => decide (overD h ws cs y.2 = o)) with
      | none => rw [hfind] at hk; cases hk
      | some y =>
        rw [hfind] at hk
        dsimp only at hk ⊢
        have hy := List.mem_of_find?_eq_some hfind
        cases k with
        | zero => exact ⟨hx,fun _ => by show x.w < _; omega⟩
        | succ k =>
          have hs := planStep_next p hy
          have hle := (left_nxt hx hy).2
          have ih := plan_prefix (o := o) f y.2 (planStep (x.w,p) y.1).2 hle k (by simpa using hk)
          rw [List.take_succ_cons,List.foldl_cons]
          have : planStep (x.w,p) y.1 = (y.2.w,(planStep (x.w,p) y.1).2) := Prod.ext hs rfl
          rw [this]
          exact ih
/-! ### Rows in memory -/
structure RowsM (m : Mem) (pb : Nat) (p : List (List Int)) (C : List (Nat × Nat)) : Prop where
  len : C.length = p.length
  box : m pb = some (.cells ((List.range p.length).map fun i => .mslice (C[i]!).1 0 (p[i]!).length (C[i]!).2))
  row : ∀ i,i < p.length → (p[i]!).length ≤ (C[i]!).2 ∧ (C[i]!).2 ≤ maxLen ∧ ((C[i]!).2 = 0 ∨ ((C[i]!).1 ≠ pb ∧ ∃ tail : List AV,m (C[i]!).1 = some (.cells ((((p[i]!).map (AV.int .i64)).map AV.cells).flatten ++ tail)) ∧ tail.length = (C[i]!).2 - (p[i]!).length))
  ne : ∀ i j,i < p.length → j < p.length → i ≠ j → (C[i]!).2 ≠ 0 → (C[j]!).2 ≠ 0 → (C[i]!).1 ≠ (C[j]!).1
theorem set_at {α : Type} [Inhabited α] (l : List α) {i j : Nat} (x : α) (hi : i < l.length) : (l.set i x)[j]! = if i = j then x else l[j]! := getD_set hi
theorem RowsM.grow {m : Mem} {pb : Nat} {p : List (List Int)} {C : List (Nat × Nat)} (r : RowsM m pb p C) {w : Nat} (hw : w < p.length) {rb cap : Nat} (hrb : ((C[w]!).2 ≠ 0 ∧ rb = (C[w]!).1) ∨ m rb = none) (c : Int) (tail : List AV) (ht : tail.length = cap - ((p[w]!).length + 1)) (hc : (p[w]!).length + 1 ≤ cap) (hcm : cap ≤ maxLen) :
    RowsM (upd (upd m rb (some (.cells ((((p[w]! ++ [c]).map (AV.int .i64)).map AV.cells).flatten ++ tail)))) pb (some (.cells (((List.range p.length).map fun i => AV.mslice (C[i]!).1 0 (p[i]!).length (C[i]!).2).set w (.mslice rb 0 ((p[w]!).length + 1) cap))))) pb (p.set w (p[w]! ++ [c])) (C.set w (rb,cap)) := by
  have hwC : w < C.length := by rw [r.len]; exact hw
  have hrp : rb ≠ pb := by
    rcases hrb with ⟨q,rfl⟩ | q
    · rcases (r.row w hw).2.2 with e | ⟨e,_⟩
      · exact absurd e q
      · exact e
    · rintro rfl; rw [r.box] at q; cases q
  have hother : ∀ i,i < p.length → i ≠ w → (C[i]!).2 ≠ 0 → (C[i]!).1 ≠ rb := fun i hi hiw h0 => by
    rcases hrb with ⟨q,rfl⟩ | q
    · exact r.ne i w hi hw hiw h0 q
    · rcases (r.row i hi).2.2 with e | ⟨_,t,e,_⟩
      · exact absurd e h0
      · intro e2; rw [e2,q] at e; cases e
  have hp : ∀ j,(p.set w (p[w]! ++ [c]))[j]! = if w = j then p[w]! ++ [c] else p[j]! := fun j => set_at p _ hw
  have hC : ∀ j,(C.set w (rb,cap))[j]! = if w = j then (rb,cap) else C[j]! := fun j => set_at C _ hwC
  refine ⟨by rw [List.length_set,List.length_set]; exact r.len,?_,fun i hi => ?_,fun i j hi hj hij => ?_⟩
  · rw [upd_same]
    congr 2
    refine List.ext_getElem (by simp) fun i h1 h2 => ?_
    rw [List.getElem_set]
    simp only [List.getElem_map,List.getElem_range,hp,hC]
    split
    · rw [List.length_append]; rfl
    · rfl
  · rw [List.length_set] at hi
    rw [hp,hC]
    by_cases e : w = i
    · subst e
      rw [if_pos rfl,if_pos rfl,List.length_append]
      refine ⟨hc,hcm,.inr ⟨hrp,tail,?_,ht⟩⟩
      rw [upd_ne _ _ hrp,upd_same]
    · rw [if_neg e,if_neg e]
      obtain ⟨k1,k2,k3⟩ := r.row i hi
      refine ⟨k1,k2,?_⟩
      by_cases h0 : (C[i]!).2 = 0
      · exact .inl h0
      · rcases k3 with k | ⟨k3,t,k4,k5⟩
        · exact absurd k h0
        · exact .inr ⟨k3,t,by rw [upd_ne _ _ k3,upd_ne _ _ (hother i hi (fun q => e q.symm) h0)]; exact k4,k5⟩
  · rw [List.length_set] at hi hj
    rw [hC,hC]
    by_cases e : w = i
    · subst e
      rw [if_pos rfl,if_neg hij]
      intro _ h2
      exact (hother j hj (fun q => hij q.symm) h2).symm
    · rw [if_neg e]
      by_cases e2 : w = j
      · subst e2
        rw [if_pos rfl]
        intro h1 _
        exact hother i hi (fun q => e q.symm) h1
      · rw [if_neg e2]
        exact r.ne i j hi hj hij
theorem rep_at {α : Type} [Inhabited α] {n i : Nat} (x : α) (hi : i < n) : (List.replicate n x)[i]! = x := by
  rw [getD_any (by simpa using hi)]; simp
theorem rows_begin (m : Mem) (pb n : Nat) : RowsM (upd m pb (some (.cells (List.replicate n [AV.mslice 0 0 0 0]).flatten))) pb (List.replicate n []) (List.replicate n (0,0)) := by
  refine ⟨by simp,?_,fun i hi => ?_,fun i j hi hj _ h => ?_⟩
  · rw [upd_same]
    congr 2
    have : ∀ k : Nat,(List.replicate k [AV.mslice 0 0 0 0]).flatten = List.replicate k (AV.mslice 0 0 0 0) := fun k => by
      induction k with
      | zero => rfl
      | succ k ih => rw [List.replicate_succ,List.flatten_cons,ih,List.replicate_succ]; rfl
    rw [this]
    refine List.ext_getElem (by simp) fun i h1 h2 => ?_
    have hi : i < n := by simpa using h1
    simp only [List.getElem_replicate,List.getElem_map,List.getElem_range,rep_at _ hi]
    rfl
  · have hi : i < n := by simpa using hi
    rw [rep_at _ hi,rep_at _ hi]
    exact ⟨Nat.le_refl _,by decide,.inl rfl⟩
  · have hi : i < n := by simpa using hi
    rw [rep_at _ hi] at h
    exact absurd rfl h
theorem drop_row (A : List Int) (t : List AV) {k : Nat} (hk : k < A.length) : ∃ r,(((A.map (AV.int .i64)).map AV.cells).flatten ++ t).drop k = .int .i64 A[k]! :: r := by
  rw [flat_ints',List.drop_append_of_le_length (by rw [List.length_map]; omega),List.drop_eq_getElem_cons (by rw [List.length_map]; exact hk)]
  exact ⟨_,by rw [List.getElem_map,getD_any hk]; rfl⟩
theorem cell_at {w : World} {b j : Nat} {cs : List Value} {e : TypeId} (h : w.heap[b]? = some (.cells cs.toArray e (0,0))) : w.cell? ⟨b,j,none⟩ = cs[j]? := by simp [World.cell?,h]
theorem RowsM.put {m : Mem} {pb : Nat} {p : List (List Int)} {C : List (Nat × Nat)} (r : RowsM m pb p C) {j : Nat} (h1 : j ≠ pb) (h2 : ∀ i,i < p.length → (C[i]!).2 ≠ 0 → (C[i]!).1 ≠ j) (x : Option Box) : RowsM (upd m j x) pb p C := by
  refine ⟨r.len,by rw [upd_ne _ _ h1.symm]; exact r.box,fun i hi => ?_,r.ne⟩
  obtain ⟨k1,k2,k3⟩ := r.row i hi
  refine ⟨k1,k2,?_⟩
  by_cases h0 : (C[i]!).2 = 0
  · exact .inl h0
  · rcases k3 with k | ⟨k3,t,k4,k5⟩
    · exact absurd k h0
    · exact .inr ⟨k3,t,by rw [upd_ne _ _ (h2 i hi h0)]; exact k4,k5⟩
theorem rows_drop {p : List (List Int)} {C : List (Nat × Nat)} {w : Nat} (hw : w < p.length) : ∃ r,((List.range p.length).map fun i => AV.mslice (C[i]!).1 0 (p[i]!).length (C[i]!).2).drop w = .mslice (C[w]!).1 0 (p[w]!).length (C[w]!).2 :: r := by
  rw [List.drop_eq_getElem_cons (by simpa using hw)]
  exact ⟨_,by rw [List.getElem_map,List.getElem_range]⟩
theorem rep_tuple3 {com com' : Nat → Nat} {w : World} {a b c a' b' c' : AV} {v : Value} (h : Rep com w (.tuple [a,b,c]) v) (ha : ∀ u,Rep com w a u → Rep com' w a' u) (hb : ∀ u,Rep com w b u → Rep com' w b' u) (hc : ∀ u,Rep com w c u → Rep com' w c' u) : Rep com' w (.tuple [a',b',c']) v := by
  cases h with
  | tuple _ vs hl h =>
    have hr : Reps com w [a,b,c] vs := ⟨hl,h⟩
    obtain ⟨v1,vs,rfl,r1,hr⟩ := Reps.cons_inv hr
    obtain ⟨v2,vs,rfl,r2,hr⟩ := Reps.cons_inv hr
    obtain ⟨v3,vs,rfl,r3,hr⟩ := Reps.cons_inv hr
    obtain rfl := Reps.nil_inv hr
    have := Reps.cons (ha _ r1) (Reps.cons (hb _ r2) (Reps.cons (hc _ r3) Reps.nil))
    exact .tuple _ _ this.1 this.2
theorem frozen_le {G : Gh} {w : World} {m m' : Mem} (hm : MemRep G w m) (b : Nat) : G.com b ≤ frozenC G m m' b := by
  unfold frozenC
  split
  · rename_i l hb
    rw [(hm b _ hb).2.2.2.1]; exact Nat.zero_le _
  · exact Nat.le_refl _
theorem rows_settle {m1 m2 : Mem} {pb : Nat} {p : List (List Int)} {C : List (Nat × Nat)} (r : RowsM m1 pb p C) (h0 : m2 pb = none) (hr : ∀ i,i < p.length → (C[i]!).2 ≠ 0 → m2 (C[i]!).1 = none) (hp : p.length ≤ maxLen) {G : Gh} {w : World} (hm : MemRep G w m1) {v : Value} (hv : Rep G.com w (.mslice pb 0 p.length p.length) v) :
    Rep (frozenC G m1 m2) w (.slice 1 (p.map ints)) v := by
  obtain ⟨_,_,_,_,cs,e,hheap,hreps⟩ := hm pb _ r.box
  have hcom : frozenC G m1 m2 pb = p.length := by
    unfold frozenC; rw [h0,r.box]; simp
  have hcl : cs.length = p.length := by rw [← hreps.1]; simp
  have hrow : RowRep (frozenC G m1 m2) w 1 (p.map ints) cs := by
    refine row_flatten (fun x hx => by obtain ⟨y,_,rfl⟩ := List.mem_map.1 hx; rfl) ⟨?_,fun i x u hx hu => ?_⟩
    · have : ∀ q : List (List Int),((q.map ints).map AV.cells).flatten = q.map ints := fun q => by
        induction q with
        | nil => rfl
        | cons a q ih => simp only [List.map_cons,List.flatten_cons,ih]; rfl
      rw [this,List.length_map,hcl]
    · have : ∀ q : List (List Int),((q.map ints).map AV.cells).flatten = q.map ints := fun q => by
        induction q with
        | nil => rfl
        | cons a q ih => simp only [List.map_cons,List.flatten_cons,ih]; rfl
      rw [this] at hx
      obtain ⟨hi,ex⟩ := List.getElem?_eq_some_iff.1 hx
      rw [List.length_map] at hi
      rw [List.getElem_map] at ex
      subst ex
      rw [← getD_any hi]
      have hu2 := hreps.2 i _ u (by rw [List.getElem?_map,List.getElem?_range hi]; rfl) hu
      have hu2 : Rep G.com w (.mslice (C[i]!).1 0 (p[i]!).length (C[i]!).2) u := hu2
      obtain ⟨k1,k2,k3⟩ := r.row i hi
      by_cases hz : (C[i]!).2 = 0
      · have hl0 : (p[i]!).length = 0 := by omega
        rw [List.eq_nil_of_length_eq_zero hl0]
        rw [hl0] at hu2
        exact weak_nil (sz := 1) k2 (hu2.mono (frozen_le hm) fun _ _ _ => rfl)
      · rcases k3 with k3 | ⟨k3,t,k4,k5⟩
        · exact absurd k3 hz
        · obtain ⟨_,_,_,_,ds,e2,d1,d2⟩ := hm _ _ k4
          have d3 : Reps (frozenC G m1 m2) w (((((p[i]!).map (AV.int .i64)).map AV.cells).flatten) ++ t) ds := ⟨d2.1,fun i x v hx hv => (d2.2 i x v hx hv).mono (frozen_le hm) fun _ _ _ => rfl⟩
          obtain ⟨c1,c2,rfl,t3,_⟩ := Reps.split d3
          have hrow2 := row_flatten (es := (p[i]!).map (AV.int .i64)) (sz := 1) (fun x hx => by obtain ⟨y,_,rfl⟩ := List.mem_map.1 hx; rfl) t3
          have hl1 : c1.length = (p[i]!).length := by rw [← t3.1,flat_ints',List.length_map]
          have hcom2 : frozenC G m1 m2 (C[i]!).1 = (((((p[i]!).map (AV.int .i64)).map AV.cells).flatten) ++ t).length := by
            unfold frozenC; rw [hr i hi hz,k4]
          have hrm := rep_melt (b := (C[i]!).1) hrow2 (fun x hx => by obtain ⟨y,_,rfl⟩ := List.mem_map.1 hx; rfl) (by rw [hcom2,flat_ints',List.length_append,List.length_map]; omega) (fun j hj => by
            rw [List.length_map] at hj
            have hj2 : j < c1.length := by omega
            rw [cell_at d1,List.getElem?_append_left hj2]) (hu2.mono (frozen_le hm) fun _ _ _ => rfl)
          have hme : meltA (C[i]!).1 1 ((p[i]!).map (AV.int .i64)) (.mslice (C[i]!).1 0 (p[i]!).length (C[i]!).2) = .slice 1 ((p[i]!).map (AV.int .i64)) := if_pos ⟨rfl,by rw [List.length_map],k1,k2⟩
          rw [hme] at hrm
          exact hrm
  rcases rep_mslice hv with e1 | ⟨e1,_,e2⟩
  · rw [e1]
    have := hrow.slice (b := pb) (off := 0) (cap := p.length) (fun x hx => by obtain ⟨y,_,rfl⟩ := List.mem_map.1 hx; rfl) (by rw [List.length_map]; exact Nat.le_refl _) hp (by rw [hcom,List.length_map]; omega) (fun j hj => by
      rw [List.length_map] at hj
      rw [Nat.zero_add]
      have hj2 : j < cs.length := by omega
      rw [cell_at hheap])
    rwa [List.length_map] at this
  · rw [e2,List.eq_nil_of_length_eq_zero e1]
    exact .nilslice 1
end Go.Proofs.YteppmjlfpniiaaaGreat.Abs
