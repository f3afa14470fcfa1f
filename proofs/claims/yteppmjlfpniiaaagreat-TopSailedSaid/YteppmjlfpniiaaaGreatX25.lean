/- Lemmas for the statements of this seat (X25): they hold without conditions beyond those that each one states. -/
import Derived.Test.YteppmjlfpniiaaaGreatX22
import Derived.Test.YteppmjlfpniiaaaGreatX17
import Derived.Test.YteppmjlfpniiaaaGreatX18
/- Contracts: the first one of the shortest lists of a set's numbers. -/
namespace Go.Proofs.YteppmjlfpniiaaaGreat.Abs
set_option linter.unusedSimpArgs false
set_option maxHeartbeats 4000000
set_option maxRecDepth 100000
open Go Go.RowKit Go.Proofs
theorem lexC_pos : ∀ a b : List Int,0 < lexC a b ↔ b < a
  | [],[] => by simp [lexC]
  | [],y :: b => by simp [lexC]
  | x :: a,[] => by simp [lexC]
  | x :: a,y :: b => by
    have ih := lexC_pos a b
    unfold lexC
    rw [List.cons_lt_cons_iff]
    split
    · constructor
      · intro h; exact absurd h (by decide)
      · rintro (h | ⟨h,_⟩) <;> omega
    · split
      · constructor
        · intro _; exact .inl (by assumption)
        · intro _; decide
      · rw [ih]
        constructor
        · intro h; exact .inr ⟨by omega,h⟩
        · rintro (h | ⟨_,h⟩)
          · omega
          · exact h
def fewR : Option (List Int) → AV
  | none => .tuple [.slice 1 [],.bool false]
  | some l => .tuple [ints l,.bool true]
theorem fewest_c (g : FuncId) (caps : List AV) (n : Nat) (h0 : 0 < n) (hn : n ≤ 5) (so : Nat → Bool) (m : Mem) (h : ∀ s,s < 2 ^ n → ACall Tryz.prog g ([.int .i64 s] ++ caps) m (fun r m' => r = .bool (so s) ∧ m' = m)) :
    ACall Tryz.prog 68 [.int .i64 n,.fn (.func g) [] caps] m (fun r m' => r = fewR (fewestTo n so (2 ^ n)) ∧ m' = m) := by
  have p2 : 2 ^ n ≤ 2 ^ 5 := Nat.pow_le_pow_right (by decide) hn
  have hnum := fun s hs => numbers_c s n hs h0 hn
  have hcmp := compare_c
  simp only [ints] at hnum hcmp
  simp only [List.cons_append,List.nil_append] at h
  (refine acall_intro (E := envC (modeAt [] []) false []) (envCOk _ _ _) rfl Tryz.func68 rfl Tryz.call68 (by kernel_rfl) (by simp [Tryz.ntmps68]) ?_; simp only [Tryz.f68];  simp(maxSteps:=9^9)only[↓VX,VQ,seval])
  repeat'(first|intro _|apply And.intro)
  all_goals try first|omega|(simp only[LL];omega)|exact nlC (by decide) _|exact nbC rfl
  refine aloop (envCOk _ _ _) (fun s : Nat × Option (List Int) => ⟨[(0,.v (.int .i64 n)),(1,.v (.fn (.func g) [] caps)),(4,.v (.slice 1 ((s.2.getD []).map (AV.int .i64)))),(5,.v (.bool s.2.isSome)),(9,.v (.int .i64 (2 ^ n : Nat))),(10,.v (.int .i64 s.1))],[],[],m⟩)
    (fun s => s.1 ≤ 2 ^ n ∧ s.2 = fewestTo n so s.1) (fun s => 2 ^ n - s.1) (0,none) (fun _ => rfl) ⟨Nat.zero_le _,rfl⟩ (by (simp only [FE,↓FP,seval]); try simp) ?_
  rintro ⟨k,best⟩ ⟨hk,hbest⟩
  dsimp only at hk hbest
  by_cases hlt : k < 2 ^ n
  · have hfe : fewestTo n so (k + 1) = match fewestTo n so k with
        | none => if so k = true then some (listTo k n) else none
        | some b => if b.length < (listTo k n).length ∨ ((listTo k n).length = b.length ∧ b < listTo k n) then some b else if so k = true then some (listTo k n) else some b := rfl
    rw [← hbest] at hfe
    have hnk := hnum k (by omega)
    have hso := h k hlt
    have hlt' : ((k : Int) < ((2 ^ n : Nat) : Int)) = True := by simp; exact_mod_cast hlt
    have hcm := hcmp (listTo k n)
    have hlx := lexC_pos (listTo k n)
    have hpow : k + 1 ≤ 2 ^ n := hlt
    generalize hF : fewestTo n so (k + 1) = F at *
    generalize listTo k n = T at *
    generalize hsk : so k = S at *
    cases best with
    | none =>
      dsimp only at hfe
      simp(maxSteps:=9^9)only[↓VX,VQ,seval,hlt']
      ((refine ACall.pure (hnk) ?_; try simp(maxSteps:=9^9)only[↓VX,VQ,seval]); try simp(maxSteps:=9^9)only[↓VX,VQ,seval,GL])
      repeat'(first|intro _|apply And.intro)
      all_goals try first|omega|(simp only[LL];omega)|exact nlC (by decide) _|exact nbC rfl
      refine ACall.told hso ?_
      rintro r m1 ⟨rfl,rfl⟩
      try simp(maxSteps:=9^9)only[↓VX,VQ,seval]
      cases S
      · rw [if_neg (by decide)] at hfe
        subst hfe
        simp(maxSteps:=9^9)only[↓VX,VQ,seval]
        repeat'(first|intro _|apply And.intro)
        all_goals try first|omega|(simp only[LL];omega)|exact nlC (by decide) _|exact nbC rfl
        refine ⟨(k + 1,none),⟨hpow,hF.symm⟩,by dsimp only; omega,?_⟩
        (simp only [FE,↓FP,seval])
        try simp
      · rw [if_pos rfl] at hfe
        subst hfe
        simp(maxSteps:=9^9)only[↓VX,VQ,seval]
        repeat'(first|intro _|apply And.intro)
        all_goals try first|omega|(simp only[LL];omega)|exact nlC (by decide) _|exact nbC rfl
        refine ⟨(k + 1,some T),⟨hpow,hF.symm⟩,by dsimp only; omega,?_⟩
        (simp only [FE,↓FP,seval])
        try simp
    | some b =>
      dsimp only at hfe
      have hcb := hcm b
      have hlb := hlx b
      simp(maxSteps:=9^9)only[↓VX,VQ,seval,hlt']
      ((refine ACall.pure (hnk) ?_; try simp(maxSteps:=9^9)only[↓VX,VQ,seval]); try simp(maxSteps:=9^9)only[↓VX,VQ,seval,GL])
      repeat'(first|intro _|apply And.intro)
      all_goals try first|omega|(simp only[LL];omega)|exact nlC (by decide) _|exact nbC rfl
      · have q1 : (T.length : Int) = b.length := by assumption
        ((refine ACall.pure (hcb) ?_; try simp(maxSteps:=9^9)only[↓VX,VQ,seval]); try simp(maxSteps:=9^9)only[↓VX,VQ,seval,GL])
        repeat'(first|intro _|apply And.intro)
        all_goals try first|omega|(simp only[LL];omega)|exact nlC (by decide) _|exact nbC rfl
        · have q2 : 0 < lexC T b := by assumption
          rw [if_pos (.inr ⟨by omega,hlb.1 q2⟩)] at hfe
          subst hfe
          refine ⟨(k + 1,some b),⟨hpow,hF.symm⟩,by dsimp only; omega,?_⟩
          (simp only [FE,↓FP,seval])
          try simp
        · have q2 : ¬ 0 < lexC T b := by assumption
          rw [if_neg (fun e => e.elim (fun e => absurd e (by omega)) (fun e => q2 (hlb.2 e.2)))] at hfe
          refine ACall.told hso ?_
          rintro r m1 ⟨rfl,rfl⟩
          try simp(maxSteps:=9^9)only[↓VX,VQ,seval]
          cases S
          · rw [if_neg (by decide)] at hfe
            subst hfe
            simp(maxSteps:=9^9)only[↓VX,VQ,seval]
            repeat'(first|intro _|apply And.intro)
            all_goals try first|omega|(simp only[LL];omega)|exact nlC (by decide) _|exact nbC rfl
            refine ⟨(k + 1,some b),⟨hpow,hF.symm⟩,by dsimp only; omega,?_⟩
            (simp only [FE,↓FP,seval])
            try simp
          · rw [if_pos rfl] at hfe
            subst hfe
            simp(maxSteps:=9^9)only[↓VX,VQ,seval]
            repeat'(first|intro _|apply And.intro)
            all_goals try first|omega|(simp only[LL];omega)|exact nlC (by decide) _|exact nbC rfl
            refine ⟨(k + 1,some T),⟨hpow,hF.symm⟩,by dsimp only; omega,?_⟩
            (simp only [FE,↓FP,seval])
            try simp
      · have q1 : ¬ (T.length : Int) = b.length := by assumption
        have q3 : ¬ (b.length : Int) < T.length := by assumption
        rw [if_neg (fun e => e.elim (fun e => absurd e (by omega)) (fun e => absurd e.1 (by omega)))] at hfe
        refine ACall.told hso ?_
        rintro r m1 ⟨rfl,rfl⟩
        try simp(maxSteps:=9^9)only[↓VX,VQ,seval]
        cases S
        · rw [if_neg (by decide)] at hfe
          subst hfe
          simp(maxSteps:=9^9)only[↓VX,VQ,seval]
          repeat'(first|intro _|apply And.intro)
          all_goals try first|omega|(simp only[LL];omega)|exact nlC (by decide) _|exact nbC rfl
          refine ⟨(k + 1,some b),⟨hpow,hF.symm⟩,by dsimp only; omega,?_⟩
          (simp only [FE,↓FP,seval])
          try simp
        · rw [if_pos rfl] at hfe
          subst hfe
          simp(maxSteps:=9^9)only[↓VX,VQ,seval]
          repeat'(first|intro _|apply And.intro)
          all_goals try first|omega|(simp only[LL];omega)|exact nlC (by decide) _|exact nbC rfl
          refine ⟨(k + 1,some T),⟨hpow,hF.symm⟩,by dsimp only; omega,?_⟩
          (simp only [FE,↓FP,seval])
          try simp
      · have q3 : ¬ ¬ (b.length : Int) < T.length := by assumption
        rw [if_pos (.inl (by omega))] at hfe
        subst hfe
        refine ⟨(k + 1,some b),⟨hpow,hF.symm⟩,by dsimp only; omega,?_⟩
        (simp only [FE,↓FP,seval])
        try simp
  · have hke : k = 2 ^ n := by omega
    subst hke
    have hnlt : (((2 ^ n : Nat) : Int) < ((2 ^ n : Nat) : Int)) = False := by simp
    rw [← hbest]
    cases best with
    | none =>
      simp(maxSteps:=9^9)only[↓VX,VQ,seval,hnlt]
      rfl
    | some b =>
      simp(maxSteps:=9^9)only[↓VX,VQ,seval,hnlt]
      rfl
theorem lentC_le {G : Gh} {w : World} {m : Mem} (hm : MemRep G w m) (b : Nat) : G.com b ≤ lentC G m b := by
  unfold lentC
  split
  · rename_i l hb
    rw [(hm b _ hb).2.2.2.1]; exact Nat.zero_le _
  · rename_i x hb _
    rw [(hm b _ ‹_›).2.2.2.1]; exact Nat.zero_le _
  · exact Nat.le_refl _
theorem Reps.lent {G : Gh} {w : World} {m : Mem} (hm : MemRep G w m) {xs : List AV} {vs : List Value} (h : Reps G.com w xs vs) : Reps (lentC G m) w xs vs :=
  ⟨h.1,fun i x v hx hv => (h.2 i x v hx hv).mono (lentC_le hm) (fun _ _ _ => rfl)⟩
theorem rep_lent {G : Gh} {w : World} {m : Mem} (hm : MemRep G w m) {b : Nat} {l l' : List AV} (hb : m b = some (.cells l)) (hl : l'.length = l.length) (h : ∀ cs,Reps G.com w l cs → Reps (lentC G m) w l' cs) {v : Value} (hv : Rep G.com w (.ptr b 0) v) :
    Rep (lentC G m) w (.eptr l') v := by
  obtain ⟨_,_,_,_,cs,e,h1,h2⟩ := hm b _ hb
  have h3 := h cs h2
  rw [rep_ptr hv]
  have hcom : lentC G m b = l.length := by unfold lentC; rw [hb]
  refine .eptr l' b 0 (fun i => cs.getD i undef) (by rw [hcom,hl]; omega) (fun i hi => ?_) (fun j x hx => ?_)
  · rw [Nat.zero_add]
    have hi2 : i < cs.length := by rw [← h2.1,← hl]; exact hi
    have : cs[i]? = some (cs.getD i undef) := by rw [List.getD_eq_getElem?_getD,List.getElem?_eq_getElem hi2]; rfl
    rw [← this]
    simp [World.cell?,h1]
  · have hj : j < cs.length := by rw [← h3.1]; exact (List.getElem?_eq_some_iff.1 hx).1
    refine h3.2 j x _ hx ?_
    rw [List.getD_eq_getElem?_getD,List.getElem?_eq_getElem hj]; rfl
theorem dsome_p (h : RHall) (hd : DOk h) (ws0 cs0 km0 ws cs hb : Nat) (hws : ws < 8) (hcs : cs < 32) (m : Mem) (hm : m hb = some (.cells (hallC h ws0 cs0 km0))) :
    ACall Tryz.prog 70 [.ptr hb 0,.int .i64 ws,.int .i64 cs] m fun r m' => r = .bool (someD h ws cs) ∧ m' = m := by
  have h1 := dsome_e h hd ws0 cs0 km0 ws cs hws hcs (fun _ => none)
  refine ACall.lend (K := fun r => r = .bool (someD h ws cs)) (h1.mono fun r m' h => h.1) (fun r e => .inl ⟨_,e⟩) fun G w vs hmr hr => ?_
  obtain ⟨v1,vs,rfl,r1,hr⟩ := Reps.cons_inv hr
  exact Reps.cons (rep_lent hmr hm rfl (fun cs h => h.lent hmr) r1) (hr.lent hmr)
theorem enough1_c (h : RHall) (hd : DOk h) (ws0 cs0 km hb s : Nat) (hs : s < 8) (hcs : cs0 < 32) (m : Mem) (hm : m hb = some (.cells (hallC h ws0 cs0 km))) (b7 : Nat) (h7 : m b7 = some (.cells [.ptr hb 0])) :
    ACall Tryz.prog 69 [.int .i64 s,.ptr b7 0] m fun r m' => r = .bool (someD h s cs0) ∧ m' = m := by
  have hsome := dsome_p h hd ws0 cs0 km s cs0 hb hs hcs m hm
  simp only [hallC,hallL,List.cons_append,List.nil_append] at hm
  (refine acall_intro (E := env fun _ => .imm) (envOk _) rfl Tryz.func69 rfl Tryz.call69 (by kernel_rfl) (by simp [Tryz.ntmps69]) ?_; simp only [Tryz.f69];  simp(maxSteps:=9^9)only[↓VX,VQ,seval])
  (refine adraw (by first | exact envOk _ | exact envCOk _ _ _) mixed [⟨false,false,0⟩,⟨false,false,0⟩,⟨false,false,0⟩,⟨false,false,0⟩,⟨false,false,0⟩,⟨false,false,0⟩,⟨false,false,2⟩,⟨false,false,0⟩] (by kernel_rfl) ?_; show vcOpsD _ _ _ (_ :: _) _ _)
  simp(maxSteps:=9^9)only[↓VX,VQ,seval,hm,h7]
  refine ACall.told hsome ?_
  rintro r m1 ⟨rfl,rfl⟩
  simp(maxSteps:=9^9)only[↓VX,VQ,seval]
theorem away1_c (h : RHall) (hd : DOk h) (ws0 cs0 km hb s : Nat) (hws : ws0 < 8) (hcs : cs0 < 32) (hs : s < 32) (m : Mem) (hm : m hb = some (.cells (hallC h ws0 cs0 km))) (b7 : Nat) (h7 : m b7 = some (.cells [.ptr hb 0])) :
    ACall Tryz.prog 71 [.int .i64 s,.ptr b7 0] m fun r m' => r = .bool (someD h ws0 (natAndNot cs0 s)) ∧ m' = m := by
  have hlt : natAndNot cs0 s < 32 := by
    have h1 : natAndNot cs0 s = cs0 ^^^ (cs0 &&& s) := rfl
    rw [h1]
    exact Nat.xor_lt_two_pow (n := 5) hcs (Nat.and_lt_two_pow _ (n := 5) hs)
  have hsome := dsome_p h hd ws0 cs0 km ws0 (natAndNot cs0 s) hb hws hlt m hm
  simp only [hallC,hallL,List.cons_append,List.nil_append] at hm
  (refine acall_intro (E := env fun _ => .imm) (envOk _) rfl Tryz.func71 rfl Tryz.call71 (by kernel_rfl) (by simp [Tryz.ntmps71]) ?_; simp only [Tryz.f71];  simp(maxSteps:=9^9)only[↓VX,VQ,seval])
  (refine adraw (by first | exact envOk _ | exact envCOk _ _ _) mixed [⟨false,false,0⟩,⟨false,false,0⟩,⟨false,false,0⟩,⟨false,false,0⟩,⟨false,false,0⟩,⟨false,false,0⟩,⟨false,false,0⟩,⟨false,false,0⟩,⟨false,false,0⟩,⟨false,false,0⟩,⟨false,false,0⟩,⟨false,false,2⟩,⟨false,false,0⟩] (by kernel_rfl) ?_; show vcOpsD _ _ _ (_ :: _) _ _)
  simp(maxSteps:=9^9)only[↓VX,VQ,seval,hm,h7]
  repeat'(first|intro _|apply And.intro)
  all_goals try first|omega|(simp only[LL];omega)|exact nlC (by decide) _|exact nbC rfl
  refine ACall.told hsome ?_
  rintro r m1 ⟨rfl,rfl⟩
  simp(maxSteps:=9^9)only[↓VX,VQ,seval]
theorem enough_c (h : RHall) (hs : dnamesFit h) (hw : 0 < h.wri.length) : PCall Tryz.prog 32 [hallA h] (.tuple [ints (enoughR h).1,.int .i64 (enoughR h).2]) := by
  intro m
  refine ACall.forget ?_
  have h1 := dcheck_c h hs
  have eE : enoughR h = if (checkD h).2.2 ≠ 0 then ([],(checkD h).2.2) else match fewestTo h.wri.length (fun s => someD h s (2 ^ h.cus.length - 1)) (2 ^ h.wri.length) with
    | none => ([],9)
    | some l => (l,0) := rfl
  generalize enoughR h = F at *
  simp only [hallA,hallL] at h1 ⊢
  (refine acall_intro (E := envC (modeAt [] [7]) false []) (envCOk _ _ _) rfl Tryz.func32 rfl Tryz.call32 (by kernel_rfl) (by simp [Tryz.ntmps32]) ?_; simp only [Tryz.f32];  simp(maxSteps:=9^9)only[↓VX,VQ,seval,])
  ((refine ACall.pure (h1) ?_; try simp(maxSteps:=9^9)only[↓VX,VQ,seval]); try simp(maxSteps:=9^9)only[↓VX,VQ,seval,GL])
  repeat'(first|intro _|apply And.intro)
  · rw [if_pos (by assumption)] at eE
    subst eE
    exact ⟨m,fun _ _ q => q,rfl,rfl⟩
  have hc : (checkD h).2.2 = 0 := Decidable.of_not_not (by assumption)
  rw [if_neg (by omega)] at eE
  have hd := dok_check hc
  have hlk := dlook_c h hd.n hd.m m
  simp only [hallA,hallL] at hlk
  refine ACall.told hlk ?_
  rintro r m1 ⟨hb,km,rfl,g1,g2,g3,rfl⟩
  have hm : upd (upd m km (some (.map []))) hb (some (.cells (hallC h (2 ^ h.wri.length - 1) (2 ^ h.cus.length - 1) km))) hb = some (.cells (hallC h (2 ^ h.wri.length - 1) (2 ^ h.cus.length - 1) km)) := upd_same _ _ _
  have hsub := sub2' (some (.map [])) (some (.cells (hallC h (2 ^ h.wri.length - 1) (2 ^ h.cus.length - 1) km))) g2 g1
  generalize upd (upd m km (some (.map []))) hb (some (.cells (hallC h (2 ^ h.wri.length - 1) (2 ^ h.cus.length - 1) km))) = m1 at *
  simp(maxSteps:=9^9)only[↓VX,VQ,seval]
  intro b7 hb7 _
  have n7 : b7 ≠ hb := by rintro rfl; rw [hm] at hb7; cases hb7
  have hsub7 : ∀ k z,m k = some z → upd (upd m1 b7 (some (.cells [.nilptr]))) b7 (some (.cells [.ptr hb 0])) k = some z := fun k z q => by
    have := hsub k z q
    have e : k ≠ b7 := by rintro rfl; rw [hb7] at this; cases this
    rw [upd_ne _ _ e,upd_ne _ _ e]; exact this
  have h7 : upd (upd m1 b7 (some (.cells [.nilptr]))) b7 (some (.cells [.ptr hb 0])) b7 = some (.cells [.ptr hb 0]) := upd_same _ _ _
  have hm7 : upd (upd m1 b7 (some (.cells [.nilptr]))) b7 (some (.cells [.ptr hb 0])) hb = _ := ((upd_ne _ _ n7.symm).trans (upd_ne _ _ n7.symm)).trans hm
  generalize upd (upd m1 b7 (some (.cells [.nilptr]))) b7 (some (.cells [.ptr hb 0])) = m2 at *
  have p1 : 2 ^ h.wri.length ≤ 8 := Nat.pow_le_pow_right (n := 2) (by decide) hd.n
  have p2 : 2 ^ h.cus.length ≤ 32 := Nat.pow_le_pow_right (n := 2) (by decide) hd.m
  have p3 : 0 < 2 ^ h.wri.length := Nat.pow_pos (by decide)
  have p4 : 0 < 2 ^ h.cus.length := Nat.pow_pos (by decide)
  have hfw := fewest_c 69 [.ptr b7 0] h.wri.length hw (by have := hd.n; omega) (fun s => someD h s (2 ^ h.cus.length - 1)) m2 fun s hs => enough1_c h hd _ _ km hb s (by omega) (by omega) m2 hm7 b7 h7
  refine ACall.told hfw ?_
  rintro r m3 ⟨rfl,rfl⟩
  generalize fewestTo h.wri.length (fun s => someD h s (2 ^ h.cus.length - 1)) (2 ^ h.wri.length) = B at *
  cases B with
  | none =>
    dsimp only at eE
    subst eE
    simp only [fewR]
    simp(maxSteps:=9^9)only[↓VX,VQ,seval]
    exact ⟨m,hsub7,rfl⟩
  | some l =>
    dsimp only at eE
    subst eE
    simp only [fewR]
    simp(maxSteps:=9^9)only[↓VX,VQ,seval]
    exact ⟨m,hsub7,rfl⟩
theorem away_c (h : RHall) (hs : dnamesFit h) (hw : 0 < h.cus.length) : PCall Tryz.prog 33 [hallA h] (.tuple [ints (awayR h).1,.int .i64 (awayR h).2]) := by
  intro m
  refine ACall.forget ?_
  have h1 := dcheck_c h hs
  have eE : awayR h = if (checkD h).2.2 ≠ 0 then ([],(checkD h).2.2) else match fewestTo h.cus.length (fun s => someD h (2 ^ h.wri.length - 1) (natAndNot (2 ^ h.cus.length - 1) s)) (2 ^ h.cus.length) with
    | none => ([],0)
    | some l => (l,0) := rfl
  generalize awayR h = F at *
  simp only [hallA,hallL] at h1 ⊢
  (refine acall_intro (E := envC (modeAt [] [7]) false []) (envCOk _ _ _) rfl Tryz.func33 rfl Tryz.call33 (by kernel_rfl) (by simp [Tryz.ntmps33]) ?_; simp only [Tryz.f33];  simp(maxSteps:=9^9)only[↓VX,VQ,seval,])
  ((refine ACall.pure (h1) ?_; try simp(maxSteps:=9^9)only[↓VX,VQ,seval]); try simp(maxSteps:=9^9)only[↓VX,VQ,seval,GL])
  repeat'(first|intro _|apply And.intro)
  · rw [if_pos (by assumption)] at eE
    subst eE
    exact ⟨m,fun _ _ q => q,rfl,rfl⟩
  have hc : (checkD h).2.2 = 0 := Decidable.of_not_not (by assumption)
  rw [if_neg (by omega)] at eE
  have hd := dok_check hc
  have hlk := dlook_c h hd.n hd.m m
  simp only [hallA,hallL] at hlk
  refine ACall.told hlk ?_
  rintro r m1 ⟨hb,km,rfl,g1,g2,g3,rfl⟩
  have hm : upd (upd m km (some (.map []))) hb (some (.cells (hallC h (2 ^ h.wri.length - 1) (2 ^ h.cus.length - 1) km))) hb = some (.cells (hallC h (2 ^ h.wri.length - 1) (2 ^ h.cus.length - 1) km)) := upd_same _ _ _
  have hsub := sub2' (some (.map [])) (some (.cells (hallC h (2 ^ h.wri.length - 1) (2 ^ h.cus.length - 1) km))) g2 g1
  generalize upd (upd m km (some (.map []))) hb (some (.cells (hallC h (2 ^ h.wri.length - 1) (2 ^ h.cus.length - 1) km))) = m1 at *
  simp(maxSteps:=9^9)only[↓VX,VQ,seval]
  intro b7 hb7 _
  have n7 : b7 ≠ hb := by rintro rfl; rw [hm] at hb7; cases hb7
  have hsub7 : ∀ k z,m k = some z → upd (upd m1 b7 (some (.cells [.nilptr]))) b7 (some (.cells [.ptr hb 0])) k = some z := fun k z q => by
    have := hsub k z q
    have e : k ≠ b7 := by rintro rfl; rw [hb7] at this; cases this
    rw [upd_ne _ _ e,upd_ne _ _ e]; exact this
  have h7 : upd (upd m1 b7 (some (.cells [.nilptr]))) b7 (some (.cells [.ptr hb 0])) b7 = some (.cells [.ptr hb 0]) := upd_same _ _ _
  have hm7 : upd (upd m1 b7 (some (.cells [.nilptr]))) b7 (some (.cells [.ptr hb 0])) hb = _ := ((upd_ne _ _ n7.symm).trans (upd_ne _ _ n7.symm)).trans hm
  generalize upd (upd m1 b7 (some (.cells [.nilptr]))) b7 (some (.cells [.ptr hb 0])) = m2 at *
  have p1 : 2 ^ h.wri.length ≤ 8 := Nat.pow_le_pow_right (n := 2) (by decide) hd.n
  have p2 : 2 ^ h.cus.length ≤ 32 := Nat.pow_le_pow_right (n := 2) (by decide) hd.m
  have p3 : 0 < 2 ^ h.wri.length := Nat.pow_pos (by decide)
  have p4 : 0 < 2 ^ h.cus.length := Nat.pow_pos (by decide)
  have hfw := fewest_c 71 [.ptr b7 0] h.cus.length hw hd.m (fun s => someD h (2 ^ h.wri.length - 1) (natAndNot (2 ^ h.cus.length - 1) s)) m2 fun s hs => away1_c h hd _ _ km hb s (by omega) (by omega) (by omega) m2 hm7 b7 h7
  refine ACall.told hfw ?_
  rintro r m3 ⟨rfl,rfl⟩
  generalize fewestTo h.cus.length (fun s => someD h (2 ^ h.wri.length - 1) (natAndNot (2 ^ h.cus.length - 1) s)) (2 ^ h.cus.length) = B at *
  cases B with
  | none =>
    dsimp only at eE
    subst eE
    simp only [fewR]
    simp(maxSteps:=9^9)only[↓VX,VQ,seval]
    exact ⟨m,hsub7,rfl⟩
  | some l =>
    dsimp only at eE
    subst eE
    simp only [fewR]
    simp(maxSteps:=9^9)only[↓VX,VQ,seval]
    exact ⟨m,hsub7,rfl⟩
def cellsU (l : List RCus) : List AV := ((l.map cusA).map AV.cells).flatten
theorem cellsU_cons (x : RCus) (l : List RCus) : cellsU (x :: l) = .str x.name :: .int .i64 x.kind :: .int .i64 x.lo :: .int .i64 x.hi :: .int .i64 x.ship :: cellsU l := rfl
theorem cellsU_length : ∀ l : List RCus,(cellsU l).length = l.length * 5
  | [] => rfl
  | x :: l => by rw [cellsU_cons]; simp only [List.length_cons,cellsU_length l]; omega
theorem cellsU_ship : ∀ {l : List RCus} {k : Nat} (_ : k < l.length) (n : Int) (t : List AV),overlay (cellsU l ++ t) (k * 5 + 4) [.int .i64 n] = cellsU (l.set k { l[k]! with ship := n }) ++ t
  | [],k,h,_,_ => absurd h (Nat.not_lt_zero _)
  | x :: l,0,_,n,t => by
    rw [cellsU_cons]; rfl
  | x :: l,k + 1,h,n,t => by
    have ih := cellsU_ship (l := l) (k := k) (by simpa using h) n t
    rw [cellsU_cons,List.set_cons_succ,cellsU_cons]
    have e : ((x :: l)[k + 1]!) = l[k]! := rfl
    rw [e]
    simp only [List.cons_append]
    rw [← ih]
    unfold overlay
    rw [show (k + 1) * 5 + 4 = k * 5 + 4 + 1 + 1 + 1 + 1 + 1 by omega,show k * 5 + 4 + 1 + 1 + 1 + 1 + 1 + [AV.int .i64 n].length = k * 5 + 4 + [AV.int .i64 n].length + 1 + 1 + 1 + 1 + 1 by simp only [List.length_cons,List.length_nil]]
    rfl
theorem clone_c (l : List RCus) (h0 : 0 < l.length) (hn : l.length ≤ 5) (m : Mem) :
    ACall Tryz.prog 73 [.slice 5 (l.map cusA)] m (fun r m' => ∃ (b cap : Nat) (tail : List AV),r = .mslice b 0 l.length cap ∧ l.length ≤ cap ∧ cap ≤ maxLen ∧ m b = none ∧ m' = upd m b (some (.cells (cellsU l ++ tail)))) := by
  obtain ⟨x,r,e⟩ : ∃ x r,l = x :: r := by
    cases l with
    | nil => cases h0
    | cons x r => exact ⟨x,r,rfl⟩
  have hcm : ((l.map cusA).map AV.cells).flatten = cellsU l := rfl
  have hmap : l.map cusA = cusA x :: r.map cusA := by rw [e]; rfl
  (refine acall_intro (E := envC (modeAt [] []) false [1,3]) (envCOk _ _ _) rfl Tryz.func73 rfl Tryz.call73 (by kernel_rfl) (by simp [Tryz.ntmps73]) ?_; simp only [Tryz.f73];  simp(maxSteps:=9^9)only[↓VX,VQ,seval,])
  refine acut_at_k 1 (envCOk _ _ _) (V := vcNilS _) (fun h hd _ _ _ hi hf hs _ _ _ hn => vcNilS_sound (envCOk _ _ _) h hd hi hf hs hn) rfl rfl (fun _ : Unit => ⟨[(0,.v (.slice 5 (l.map cusA))),(4,.v (.bool false))],[],[],m⟩) (fun _ => True) (fun _ => rfl) ?_ ?_
  · show vcOps _ _ (_ :: _) _ _
    rw [hmap]
    simp(maxSteps:=9^9)only[↓VX,VQ,seval,List.take_succ_cons,List.take_zero,vcNilS]
    exact ⟨(),by (simp only [FE,↓FP,seval]); rfl⟩
  rintro _ _
  simp(maxSteps:=9^9)only[↓VX,VQ,seval]
  refine acut_at_k 2 (envCOk _ _ _) (V := vcThaw _) (fun h hd _ _ _ hi hf hs _ _ _ hn => vcThaw_sound (envCOk _ _ _) h hd hi hf hs hn) rfl rfl (fun q : Nat × Nat × List AV => ⟨[(2,.v (.mslice q.1 0 l.length q.2.1))],[],[],upd m q.1 (some (.cells (cellsU l ++ q.2.2)))⟩) (fun q => m q.1 = none ∧ l.length ≤ q.2.1 ∧ q.2.1 ≤ maxLen) (fun _ => rfl) ?_ ?_
  · show vcOps _ _ (_ :: _) _ _
    simp(maxSteps:=9^9)only[↓VX,VQ,seval,List.take_succ_cons,List.take_zero,vcThaw]
    refine ⟨⟨h0,by omega⟩,fun b cap tail q1 q2 q3 => ⟨(b,cap,tail),⟨q1,q2,q3⟩,?_⟩⟩
    (simp only [FE,↓FP,seval])
    rw [hcm]
  rintro ⟨b,cap,tail⟩ ⟨hb,hcap,hcm2⟩
  simp(maxSteps:=9^9)only[↓VX,VQ,seval]
  exact ⟨b,cap,tail,rfl,hcap,hcm2,hb,rfl⟩
def hallM (h : RHall) (cb cap ws cs km : Nat) : List AV := [.int .i64 h.sl,.slice 4 (h.wri.map wriA),.mslice cb 0 h.cus.length cap,.int .i64 ws,.int .i64 cs,.map km]
theorem dlookM_c (h : RHall) (cb cap : Nat) (hn : h.wri.length ≤ 3) (hm : h.cus.length ≤ 5) (m : Mem) : ACall Tryz.prog 43 [.agg [.int .i64 h.sl,.slice 4 (h.wri.map wriA),.mslice cb 0 h.cus.length cap]] m (fun r m' => ∃ hb km : Nat,r = .ptr hb 0 ∧ m hb = none ∧ m km = none ∧ hb ≠ km ∧ m' = upd (upd m km (some (.map []))) hb (some (.cells (hallM h cb cap (2 ^ h.wri.length - 1) (2 ^ h.cus.length - 1) km)))) := by
  have p1 : 2 ^ h.wri.length ≤ 8 := Nat.pow_le_pow_right (n := 2) (by decide) hn
  have p2 : 2 ^ h.cus.length ≤ 32 := Nat.pow_le_pow_right (n := 2) (by decide) hm
  have p3 : 0 < 2 ^ h.wri.length := Nat.pow_pos (by decide)
  have p4 : 0 < 2 ^ h.cus.length := Nat.pow_pos (by decide)
  simp only [hallM,List.cons_append,List.nil_append]
  (refine acall_intro (E := envC (modeAt [] [16]) false []) (envCOk _ _ _) rfl Tryz.func43 rfl Tryz.call43 (by kernel_rfl) (by simp [Tryz.ntmps43]) ?_; simp only [Tryz.f43];  simp(maxSteps:=9^9)only[↓VX,VQ,seval,Int.reduceEq,buildV])
  (refine adraw (by first | exact envOk _ | exact envCOk _ _ _) mixed [⟨true,false,0⟩,⟨true,false,0⟩,⟨true,false,0⟩,⟨true,false,0⟩,⟨true,false,0⟩,⟨true,false,0⟩,⟨true,false,0⟩,⟨true,false,0⟩,⟨true,false,0⟩,⟨true,false,0⟩,⟨true,false,0⟩,⟨false,false,2⟩,⟨false,false,0⟩,⟨false,false,2⟩,⟨false,false,0⟩] (by kernel_rfl) ?_; show vcOpsD _ _ _ (_ :: _) _ _)
  simp(maxSteps:=9^9)only[↓VX,VQ,seval,buildV,vcAppE]
  repeat'(first|intro _|apply And.intro)
  all_goals try first|omega|(simp only[LL];omega)|exact nlC (by decide) _|exact nbC rfl
  rename_i km h1 hb h2
  have hne : hb ≠ km := by
    rintro rfl
    rw [if_pos rfl] at h2
    cases h2
  rw [if_neg hne] at h2
  have e1 : ((2 ^ h.wri.length - 1 : Nat) : Int) = ((2 ^ h.wri.length : Nat) : Int) - 1 := by omega
  have e2 : ((2 ^ h.cus.length - 1 : Nat) : Int) = ((2 ^ h.cus.length : Nat) : Int) - 1 := by omega
  refine ⟨hb,km,rfl,h2,h1,hne,?_⟩
  rw [e1,e2]
theorem dsome_m (h : RHall) (hd : DOk h) (ws0 cs0 km0 ws cs hb cb cap : Nat) (tail : List AV) (hws : ws < 8) (hcs : cs < 32) (hc1 : h.cus.length ≤ cap) (hc2 : cap ≤ maxLen) (m : Mem) (hm : m hb = some (.cells (hallM h cb cap ws0 cs0 km0))) (hcb : m cb = some (.cells (cellsU h.cus ++ tail))) :
    ACall Tryz.prog 70 [.ptr hb 0,.int .i64 ws,.int .i64 cs] m fun r m' => r = .bool (someD h ws cs) ∧ m' = m := by
  have h1 := dsome_e h hd ws0 cs0 km0 ws cs hws hcs (fun _ => none)
  refine ACall.lend (K := fun r => r = .bool (someD h ws cs)) (h1.mono fun r m' h => h.1) (fun r e => .inl ⟨_,e⟩) fun G w vs hmr hr => ?_
  obtain ⟨v1,vs,rfl,r1,hr⟩ := Reps.cons_inv hr
  refine Reps.cons (rep_lent (l' := hallC h ws0 cs0 km0) hmr hm rfl (fun us hu => ?_) r1) (hr.lent hmr)
  obtain ⟨u1,us,rfl,s1,hu⟩ := Reps.cons_inv hu
  obtain ⟨u2,us,rfl,s2,hu⟩ := Reps.cons_inv hu
  obtain ⟨u3,us,rfl,s3,hu⟩ := Reps.cons_inv hu
  have hle := lentC_le hmr
  refine Reps.cons (s1.mono hle (fun _ _ _ => rfl)) (Reps.cons (s2.mono hle (fun _ _ _ => rfl)) (Reps.cons ?_ (hu.lent hmr)))
  obtain ⟨_,_,_,_,ts,e,t1,t2⟩ := hmr cb _ hcb
  obtain ⟨c1,c2,rfl,t3,_⟩ := Reps.split (t2.lent hmr)
  have hrow := row_flatten (es := h.cus.map cusA) (sz := 5) (fun x hx => by obtain ⟨y,_,rfl⟩ := List.mem_map.1 hx; rfl) t3
  have hcom : lentC G m cb = (cellsU h.cus ++ tail).length := by unfold lentC; rw [hcb]
  have hlen := cellsU_length h.cus
  have hrm := rep_melt (b := cb) hrow (fun x hx => by obtain ⟨y,_,rfl⟩ := List.mem_map.1 hx; rfl) (by rw [hcom,List.length_append,List.length_map,hlen]; omega) (fun i hi => by
    rw [List.length_map] at hi
    have hi2 : i < c1.length := by rw [← t3.1]; show i < (cellsU h.cus).length; rw [hlen]; exact hi
    simp [World.cell?,t1,List.getElem?_append_left hi2]) (s3.mono hle (fun _ _ _ => rfl))
  have hme : meltA cb 5 (h.cus.map cusA) (.mslice cb 0 h.cus.length cap) = .slice 5 (h.cus.map cusA) := if_pos ⟨rfl,by rw [List.length_map],hc1,hc2⟩
  rw [hme] at hrm
  exact hrm
theorem atShip_ok {h : RHall} (hd : DOk h) {c : Nat} (hc : c < h.cus.length) {n : Int} (hn : 0 ≤ n ∧ n ≤ 240) : DOk (atShip h c n) := by
  have hl : (atShip h c n).cus.length = h.cus.length := by show (h.cus.set c _).length = _; rw [List.length_set]
  refine ⟨hd.sl,hd.n,hd.wri,by rw [hl]; exact hd.m,fun i hi => ?_⟩
  rw [hl] at hi
  have e : (atShip h c n).cus[i]! = if c = i then { h.cus[c]! with ship := n } else h.cus[i]! := by
    show (h.cus.set c _)[i]! = _
    exact getD_set hc
  rw [e]
  split
  · have := hd.cus c hc
    exact ⟨this.1,this.2.1,hn⟩
  · exact hd.cus i hi
theorem atShip_twice (h : RHall) (c : Nat) (a b : Int) (hc : c < h.cus.length) : atShip (atShip h c a) c b = atShip h c b := by
  unfold atShip
  congr 1
  rw [show (h.cus.set c { h.cus[c]! with ship := a })[c]! = { h.cus[c]! with ship := a } by rw [getD_set hc,if_pos rfl]]
  rw [List.set_set]
theorem later1_c (h : RHall) (hd : DOk h) (c : Nat) (hc : c < h.cus.length) (x : Int) (hx : 0 ≤ x ∧ x ≤ 240) (cb cap b2 b9 : Nat) (tail : List AV) (hc1 : h.cus.length ≤ cap) (hc2 : cap ≤ maxLen) (m : Mem) (n2 : b2 ≠ cb)
    (h9 : m b9 = some (.cells [.ptr cb (c * 5 + 4)])) (h2 : m b2 = some (.cells [.int .i64 h.sl,.slice 4 (h.wri.map wriA),.mslice cb 0 h.cus.length cap])) (hcb : m cb = some (.cells (cellsU h.cus ++ tail))) :
    ACall Tryz.prog 74 [.int .i64 x,.ptr b9 0,.ptr b2 0] m fun r m' => r = .bool (doesD h c x) ∧ m' = upd m cb (some (.cells (cellsU (atShip h c x).cus ++ tail))) := by
  refine ACall.forget ?_
  have hd2 := atShip_ok hd hc hx
  have hl : (atShip h c x).cus.length = h.cus.length := by show (h.cus.set c _).length = _; rw [List.length_set]
  have hcell := cellsU_ship hc x tail
  have hlen := cellsU_length h.cus
  have hlk := dlookM_c (atShip h c x) cb cap hd2.n hd2.m
  have eD : doesD h c x = someD (atShip h c x) (2 ^ h.wri.length - 1) (2 ^ h.cus.length - 1) := rfl
  have p1 : 2 ^ h.wri.length ≤ 8 := Nat.pow_le_pow_right (n := 2) (by decide) hd.n
  have p2 : 2 ^ h.cus.length ≤ 32 := Nat.pow_le_pow_right (n := 2) (by decide) hd.m
  have p3 : 0 < 2 ^ h.wri.length := Nat.pow_pos (by decide)
  have p4 : 0 < 2 ^ h.cus.length := Nat.pow_pos (by decide)
  (refine acall_intro (E := envC (modeAt [] []) false []) (envCOk _ _ _) rfl Tryz.func74 rfl Tryz.call74 (by kernel_rfl) (by simp [Tryz.ntmps74]) ?_; simp only [Tryz.f74];  simp(maxSteps:=9^9)only[↓VX,VQ,seval,h9,hcb])
  repeat'(first|intro _|apply And.intro)
  all_goals try first|omega|(simp only[LL];omega)|exact nlC (by decide) _|exact nbC rfl
  have hcell' : List.take (c * 5 + 4) (cellsU h.cus ++ tail) ++ [AV.int .i64 x] ++ List.drop (c * 5 + 4 + 1) (cellsU h.cus ++ tail) = cellsU (atShip h c x).cus ++ tail := hcell
  simp(maxSteps:=9^9)only[↓VX,VQ,seval,↓hcell',n2,h2]
  repeat'(first|intro _|apply And.intro)
  all_goals try first|omega|(simp only[LL];omega)|exact nlC (by decide) _|exact nbC rfl
  have hlk := hlk (upd m cb (some (.cells (cellsU (atShip h c x).cus ++ tail))))
  rw [hl] at hlk
  refine ACall.told hlk ?_
  rintro r m1 ⟨hb,km,rfl,g1,g2,g3,rfl⟩
  have hcb0 : upd m cb (some (.cells (cellsU (atShip h c x).cus ++ tail))) cb = some (.cells (cellsU (atShip h c x).cus ++ tail)) := upd_same _ _ _
  have k1 : cb ≠ hb := by rintro rfl; rw [hcb0] at g1; cases g1
  have k2 : cb ≠ km := by rintro rfl; rw [hcb0] at g2; cases g2
  have hsub := sub2' (some (.map [])) (some (.cells (hallM (atShip h c x) cb cap (2 ^ (atShip h c x).wri.length - 1) (2 ^ h.cus.length - 1) km))) g2 g1
  have hm1 : upd (upd (upd m cb (some (.cells (cellsU (atShip h c x).cus ++ tail)))) km (some (.map []))) hb (some (.cells (hallM (atShip h c x) cb cap (2 ^ (atShip h c x).wri.length - 1) (2 ^ h.cus.length - 1) km))) hb = some (.cells (hallM (atShip h c x) cb cap (2 ^ (atShip h c x).wri.length - 1) (2 ^ h.cus.length - 1) km)) := upd_same _ _ _
  have hcm := hsub cb _ hcb0
  have hsome := dsome_m (atShip h c x) hd2 _ _ km (2 ^ h.wri.length - 1) (2 ^ h.cus.length - 1) hb cb cap tail (by omega) (by omega) (by rw [hl]; exact hc1) hc2 _ hm1 hcm
  generalize upd (upd (upd m cb (some (.cells (cellsU (atShip h c x).cus ++ tail)))) km (some (.map []))) hb (some (.cells (hallM (atShip h c x) cb cap (2 ^ (atShip h c x).wri.length - 1) (2 ^ h.cus.length - 1) km))) = m1 at *
  simp only [hallM] at hm1
  simp(maxSteps:=9^9)only[↓VX,VQ,seval]
  (refine adraw (by first | exact envOk _ | exact envCOk _ _ _) mixed [⟨false,false,0⟩,⟨false,false,0⟩,⟨false,false,0⟩,⟨false,false,0⟩,⟨false,false,0⟩,⟨false,false,0⟩,⟨false,false,0⟩,⟨false,false,0⟩,⟨false,false,0⟩,⟨false,false,2⟩,⟨false,false,0⟩] (by kernel_rfl) ?_; show vcOpsD _ _ _ (_ :: _) _ _)
  simp(maxSteps:=9^9)only[↓VX,VQ,seval,hm1]
  refine ACall.told hsome ?_
  rintro r m2 ⟨rfl,rfl⟩
  simp(maxSteps:=9^9)only[↓VX,VQ,seval]
  exact ⟨_,hsub,eD ▸ rfl,rfl⟩
theorem later2_c (h : RHall) (hd : DOk h) (c : Nat) (hc : c < h.cus.length) (x0 x : Int) (hx0 : 0 ≤ x0 ∧ x0 ≤ 240) (hx : 0 ≤ x ∧ x ≤ 240) (cb cap b2 b9 : Nat) (tail : List AV) (hc1 : h.cus.length ≤ cap) (hc2 : cap ≤ maxLen) (m : Mem) (n2 : b2 ≠ cb)
    (h9 : m b9 = some (.cells [.ptr cb (c * 5 + 4)])) (h2 : m b2 = some (.cells [.int .i64 h.sl,.slice 4 (h.wri.map wriA),.mslice cb 0 h.cus.length cap])) (hcb : m cb = some (.cells (cellsU (atShip h c x0).cus ++ tail))) :
    ACall Tryz.prog 74 [.int .i64 x,.ptr b9 0,.ptr b2 0] m fun r m' => r = .bool (doesD h c x) ∧ m' = upd m cb (some (.cells (cellsU (atShip h c x).cus ++ tail))) := by
  have hl : (atShip h c x0).cus.length = h.cus.length := by show (h.cus.set c _).length = _; rw [List.length_set]
  have h1 := later1_c (atShip h c x0) (atShip_ok hd hc hx0) c (by rw [hl]; exact hc) x hx cb cap b2 b9 tail (by rw [hl]; exact hc1) hc2 m n2 h9 (by rw [hl]; exact h2) hcb
  have e : doesD (atShip h c x0) c x = doesD h c x := by
    unfold doesD
    rw [atShip_twice _ _ _ _ hc,hl]
    rfl
  rw [e,atShip_twice _ _ _ _ hc] at h1
  exact h1
theorem cellsU_at {l : List RCus} {k : Nat} (hk : k < l.length) (t : List AV) : ∃ r,(cellsU l ++ t).drop (k * 5 + 4) = .int .i64 (l[k]!).ship :: r := by
  induction l generalizing k with
  | nil => cases hk
  | cons x l ih =>
    rw [cellsU_cons]
    cases k with
    | zero => exact ⟨_,rfl⟩
    | succ k =>
      obtain ⟨r,e⟩ := ih (k := k) (by simpa using hk)
      refine ⟨r,?_⟩
      rw [show (k + 1) * 5 + 4 = k * 5 + 4 + 1 + 1 + 1 + 1 + 1 by omega]
      exact e
theorem later_c (h : RHall) (hs : dnamesFit h) (c : Nat) (hw : c < h.cus.length) : PCall Tryz.prog 34 [hallA h,.int .i64 c] (.tuple [.int .i64 (laterR h c).1,.int .i64 (laterR h c).2]) := by
  intro m
  refine ACall.forget ?_
  have h1 := dcheck_c h hs
  have hb1 := beyondD_c 0 ((h.cus.length : Int) - 1) [(c : Int)]
  have hoff : ([(c : Int)].any (offP 0 ((h.cus.length : Int) - 1))) = false := by
    simp only [List.any_cons,List.any_nil,Bool.or_false]
    rw [offP_false]; omega
  rw [hoff] at hb1
  have eE : laterR h c = if (checkD h).2.2 ≠ 0 then (0,(checkD h).2.2) else if offP 0 ((h.cus.length : Int) - 1) c = true then (0,4)
    else if doesD h ((c : Int)).toNat 240 = false then (0,9) else (halfD (doesD h ((c : Int)).toNat) 240 ((h.cus[((c : Int)).toNat]!).ship) 240 - (h.cus[((c : Int)).toNat]!).ship,0) := rfl
  rw [Int.toNat_natCast,show offP 0 ((h.cus.length : Int) - 1) c = false from by rw [offP_false]; omega] at eE
  generalize laterR h c = F at *
  simp only [hallA,hallL,ints,List.map_cons,List.map_nil] at h1 hb1 ⊢
  (refine acall_intro (E := envC (modeAt [] [2,9]) false []) (envCOk _ _ _) rfl Tryz.func34 rfl Tryz.call34 (by kernel_rfl) (by simp [Tryz.ntmps34]) ?_; simp only [Tryz.f34];  simp(maxSteps:=9^9)only[↓VX,VQ,seval,])
  repeat'(first|intro _|apply And.intro)
  all_goals try first|omega|(simp only[LL];omega)|exact nlC (by decide) _|exact nbC rfl
  ((refine ACall.pure (h1) ?_; try simp(maxSteps:=9^9)only[↓VX,VQ,seval]); try simp(maxSteps:=9^9)only[↓VX,VQ,seval,GL])
  repeat'(first|intro _|apply And.intro)
  all_goals try first|omega|(simp only[LL];omega)|exact nlC (by decide) _|exact nbC rfl
  · rename_i b2 hb2 q
    rw [if_pos q] at eE
    subst eE
    refine ⟨m,fun b x e => ?_,rfl,rfl⟩
    rw [if_neg (by rintro rfl; rw [hb2] at e; cases e)]
    exact e
  rename_i b2 hb2 q _
  have hc : (checkD h).2.2 = 0 := Decidable.of_not_not q
  rw [if_neg (by omega),if_neg (by decide)] at eE
  have hd := dok_check hc
  ((refine ACall.pure (hb1) ?_; try simp(maxSteps:=9^9)only[↓VX,VQ,seval]); try simp(maxSteps:=9^9)only[↓VX,VQ,seval,GL])
  repeat'(first|intro _|apply And.intro)
  all_goals try first|omega|(simp only[LL];omega)|exact nlC (by decide) _|exact nbC rfl
  refine ACall.told (clone_c h.cus (by omega) hd.m _) ?_
  rintro r m1 ⟨cb,cap,tail,rfl,hc1,hc2,hcb,rfl⟩
  have n2 : b2 ≠ cb := by rintro rfl; rw [upd_same] at hcb; cases hcb
  have hcb2 : m cb = none := by rw [upd_ne _ _ n2.symm] at hcb; exact hcb
  have hcu := hd.cus c hw
  have hlen := cellsU_length h.cus
  simp(maxSteps:=9^9)only[↓VX,VQ,seval,n2,n2.symm]
  repeat'(first|intro _|apply And.intro)
  all_goals try first|omega|(simp only[LL];omega)|exact nlC (by decide) _|exact nbC rfl
  rename_i b9 hb9
  have n9 : cb ≠ b9 := by rintro rfl; rw [if_neg n2.symm,if_pos rfl] at hb9; cases hb9
  have n29 : b2 ≠ b9 := by rintro rfl; rw [if_pos rfl] at hb9; cases hb9
  have hb99 : m b9 = none := by rw [if_neg n29.symm,if_neg n9.symm,if_neg n29.symm] at hb9; exact hb9
  obtain ⟨R,hdr⟩ := cellsU_at hw tail
  have m9 : upd (upd (upd (upd (upd m b2 (some (.cells [.int .i64 h.sl,.slice 4 (h.wri.map wriA),.slice 5 (h.cus.map cusA)]))) cb (some (.cells (cellsU h.cus ++ tail)))) b2 (some (.cells [.int .i64 h.sl,.slice 4 (h.wri.map wriA),.mslice cb 0 h.cus.length cap]))) b9 (some (.cells [.nilptr]))) b9 (some (.cells [.ptr cb (c * 5 + 4)])) b9 = some (.cells [.ptr cb (c * 5 + 4)]) := upd_same _ _ _
  have m2 : upd (upd (upd (upd (upd m b2 (some (.cells [.int .i64 h.sl,.slice 4 (h.wri.map wriA),.slice 5 (h.cus.map cusA)]))) cb (some (.cells (cellsU h.cus ++ tail)))) b2 (some (.cells [.int .i64 h.sl,.slice 4 (h.wri.map wriA),.mslice cb 0 h.cus.length cap]))) b9 (some (.cells [.nilptr]))) b9 (some (.cells [.ptr cb (c * 5 + 4)])) b2 = some (.cells [.int .i64 h.sl,.slice 4 (h.wri.map wriA),.mslice cb 0 h.cus.length cap]) := by
    rw [upd_ne _ _ n29,upd_ne _ _ n29,upd_same]
  have mc : upd (upd (upd (upd (upd m b2 (some (.cells [.int .i64 h.sl,.slice 4 (h.wri.map wriA),.slice 5 (h.cus.map cusA)]))) cb (some (.cells (cellsU h.cus ++ tail)))) b2 (some (.cells [.int .i64 h.sl,.slice 4 (h.wri.map wriA),.mslice cb 0 h.cus.length cap]))) b9 (some (.cells [.nilptr]))) b9 (some (.cells [.ptr cb (c * 5 + 4)])) cb = some (.cells (cellsU h.cus ++ tail)) := by
    rw [upd_ne _ _ n9,upd_ne _ _ n9,upd_ne _ _ n2.symm,upd_same]
  have hsub : ∀ k z,m k = some z → upd (upd (upd (upd (upd m b2 (some (.cells [.int .i64 h.sl,.slice 4 (h.wri.map wriA),.slice 5 (h.cus.map cusA)]))) cb (some (.cells (cellsU h.cus ++ tail)))) b2 (some (.cells [.int .i64 h.sl,.slice 4 (h.wri.map wriA),.mslice cb 0 h.cus.length cap]))) b9 (some (.cells [.nilptr]))) b9 (some (.cells [.ptr cb (c * 5 + 4)])) k = some z := fun k z e => by
    have e1 : k ≠ b2 := by rintro rfl; rw [hb2] at e; cases e
    have e2 : k ≠ cb := by rintro rfl; rw [hcb2] at e; cases e
    have e3 : k ≠ b9 := by rintro rfl; rw [hb99] at e; cases e
    rw [upd_ne _ _ e3,upd_ne _ _ e3,upd_ne _ _ e1,upd_ne _ _ e2,upd_ne _ _ e1]
    exact e
  simp(maxSteps:=9^9)only[↓VX,VQ,seval,n9,n9.symm,↓hdr]
  have hd0 := later1_c h hd c hw 240 (by omega) cb cap b2 b9 tail hc1 hc2 _ n2 m9 m2 mc
  have hstep := fun (x0 x : Int) h0 h1 (m : Mem) h9 h2 h3 => later2_c h hd c hw x0 x h0 h1 cb cap b2 b9 tail hc1 hc2 m n2 h9 h2 h3
  generalize upd (upd (upd (upd (upd m b2 (some (.cells [.int .i64 h.sl,.slice 4 (h.wri.map wriA),.slice 5 (h.cus.map cusA)]))) cb (some (.cells (cellsU h.cus ++ tail)))) b2 (some (.cells [.int .i64 h.sl,.slice 4 (h.wri.map wriA),.mslice cb 0 h.cus.length cap]))) b9 (some (.cells [.nilptr]))) b9 (some (.cells [.ptr cb (c * 5 + 4)])) = m5 at *
  refine ACall.told hd0 ?_
  rintro r m6 ⟨rfl,rfl⟩
  have hsub2 : ∀ (x : Option Box) k z,m k = some z → upd m5 cb x k = some z := fun x k z e => by
    rw [upd_ne _ _ (by rintro rfl; rw [hcb2] at e; cases e)]; exact hsub k z e
  rcases Bool.eq_false_or_eq_true (doesD h c 240) with hq | hq
  · rw [hq,if_neg (by decide)] at eE
    rw [hq]
    generalize hso : doesD h c = so at *
    generalize hfirst : (h.cus[c]!).ship = first at *
    simp(maxSteps:=9^9)only[↓VX,VQ,seval]
    refine aloop (envCOk _ _ _) (fun s : Nat × Int × Int × Int => ⟨[(10,.v (.int .i64 first)),(11,.v (.fn (.func 74) [] [.ptr b9 0,.ptr b2 0])),(12,.v (.int .i64 s.2.1)),(13,.v (.int .i64 s.2.2.1))],[],[],upd m5 cb (some (.cells (cellsU (atShip h c s.2.2.2).cus ++ tail)))⟩)
      (fun s => (first ≤ s.2.1 ∧ s.2.1 ≤ s.2.2.1 ∧ s.2.2.1 ≤ 240 ∧ s.2.2.1 - s.2.1 ≤ s.1 ∧ 0 ≤ s.2.2.2 ∧ s.2.2.2 ≤ 240) ∧ halfD so s.1 s.2.1 s.2.2.1 = halfD so 240 first 240) (fun s => (s.2.2.1 - s.2.1).toNat) (240,first,240,240) (fun _ => rfl) ⟨by dsimp only; omega,rfl⟩ (by (simp only [FE,↓FP,seval])) ?_
    rintro ⟨f,lo,hi,x0⟩ ⟨hJ,hR⟩
    dsimp only at hJ hR
    obtain ⟨j1,j2,j3,j4,j5,j6⟩ := hJ
    have q9 : upd m5 cb (some (.cells (cellsU (atShip h c x0).cus ++ tail))) b9 = some (.cells [.ptr cb (c * 5 + 4)]) := (upd_ne _ _ n9.symm).trans m9
    have q2 : upd m5 cb (some (.cells (cellsU (atShip h c x0).cus ++ tail))) b2 = _ := (upd_ne _ _ n2).trans m2
    have qc : upd m5 cb (some (.cells (cellsU (atShip h c x0).cus ++ tail))) cb = _ := upd_same _ _ _
    by_cases hlt : lo < hi
    · obtain ⟨f,rfl⟩ : ∃ f',f = f' + 1 := ⟨f - 1,by omega⟩
      have hR2 : (if lo < hi then (if so ((lo + hi) / 2) = true then halfD so f lo ((lo + hi) / 2) else halfD so f ((lo + hi) / 2 + 1) hi) else lo) = halfD so 240 first 240 := hR
      rw [if_pos hlt] at hR2
      have hs1 := hstep x0 ((lo + hi) / 2) ⟨j5,j6⟩ (by omega) _ q9 q2 qc
      rw [upd_upd] at hs1
      simp(maxSteps:=9^9)only[↓VX,VQ,seval]
      repeat'(first|intro _|apply And.intro)
      all_goals try first|omega|(simp only[LL];omega)|exact nlC (by decide) _|exact nbC rfl
      refine ACall.told hs1 ?_
      rintro r m6 ⟨rfl,rfl⟩
      rcases Bool.eq_false_or_eq_true (so ((lo + hi) / 2)) with hb | hb
      · rw [hb,if_pos rfl] at hR2
        rw [hb]
        simp(maxSteps:=9^9)only[↓VX,VQ,seval]
        repeat'(first|intro _|apply And.intro)
        all_goals try first|omega|(simp only[LL];omega)|exact nlC (by decide) _|exact nbC rfl
        refine ⟨(f,lo,(lo + hi) / 2,(lo + hi) / 2),⟨by dsimp only; omega,hR2⟩,by dsimp only; omega,?_⟩
        (simp only [FE,↓FP,seval])
      · rw [hb,if_neg (by decide)] at hR2
        rw [hb]
        simp(maxSteps:=9^9)only[↓VX,VQ,seval]
        repeat'(first|intro _|apply And.intro)
        all_goals try first|omega|(simp only[LL];omega)|exact nlC (by decide) _|exact nbC rfl
        refine ⟨(f,(lo + hi) / 2 + 1,hi,(lo + hi) / 2),⟨by dsimp only; omega,hR2⟩,by dsimp only; omega,?_⟩
        (simp only [FE,↓FP,seval])
    · have hR2 : halfD so f lo hi = lo := by
        cases f with
        | zero => rfl
        | succ f => show (if lo < hi then _ else _) = _; rw [if_neg hlt]
      rw [hR2] at hR
      rw [← hR] at eE
      subst eE
      simp(maxSteps:=9^9)only[↓VX,VQ,seval]
      repeat'(first|intro _|apply And.intro)
      all_goals try first|omega|(simp only[LL];omega)|exact nlC (by decide) _|exact nbC rfl
      exact ⟨m,hsub2 _,rfl⟩
  · rw [hq,if_pos rfl] at eE
    subst eE
    rw [hq]
    simp(maxSteps:=9^9)only[↓VX,VQ,seval]
    exact ⟨m,hsub2 _,rfl⟩
end Go.Proofs.YteppmjlfpniiaaaGreat.Abs
