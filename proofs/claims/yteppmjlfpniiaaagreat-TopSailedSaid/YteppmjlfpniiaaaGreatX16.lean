/- Lemmas for the statements of this seat (X16): they hold without conditions beyond those that each one states. -/
import Derived.Test.YteppmjlfpniiaaaGreatX15
import Derived.Test.YteppmjlfpniiaaaGreatX6
/- Laws: truths of the code and of the reference. Contracts: enter. -/
namespace Go.Proofs.YteppmjlfpniiaaaGreat.Abs
set_option linter.unusedSimpArgs false
set_option maxHeartbeats 4000000
set_option maxRecDepth 100000
open Go Go.RowKit Go.Proofs
theorem listTo_nil {s n : Nat} (hs : s < 2 ^ n) : listTo s n = [] ↔ s = 0 := by
 constructor
 ·intro h
  refine Nat.eq_of_testBit_eq fun i => ?_
  rw [Nat.zero_testBit]
  by_cases q : i < n
  ·cases hb : s.testBit i with
   | false => rfl
   | true =>
    have := (mem_listTo q).2 hb
    rw [h] at this; cases this
  ·rw [Nat.testBit_lt_two_pow (Nat.lt_of_lt_of_le hs (Nat.pow_le_pow_right (by decide) (by omega)))]
 ·rintro rfl
  unfold listTo
  simp
theorem loads_true {h : RHarb} (hh : HOk h) {l : List Fate} (hl : FOk h l) (b : Nat) : loadsOk h b l = trueB h (listTo b h.reports.length) l := by
 unfold loadsOk trueB
 rw [said_same hh hl]
 congr 1
 unfold goB
 refine all_congr fun k hk => ?_
 rw [← load_list hh hl b k,decide_eq_decide]
 have h1 : loadS h (fun i => l[i]!) b h.reports.length k < 2 ^ h.ships.length := setOf_lt _ _
 rw [List.length_pos_iff,ne_eq,ne_eq,listTo_nil h1]
theorem fleets_ok {h : RHarb} (hh : HOk h) {f : List Fate} (e : f ∈ fleetsI h.ships h.lost) : FOk h f := fleets_fok hh ((mem_fleets hh.l.1).1 e)
theorem truths_mem {h : RHarb} (hh : HOk h) (b : Nat) {t : RTru} : t ∈ truthsR h (listTo b h.reports.length) ↔ ∃ f ∈ fleetsI h.ships h.lost,loadsOk h b f = true ∧ t = truOf h (listTo b h.reports.length) f := by
 unfold truthsR
 simp only [List.mem_map,List.mem_filter]
 constructor
 ·rintro ⟨f,⟨h1,h2⟩,rfl⟩
  have h1' := (mem_fleets hh.l.1).2 h1
  exact ⟨f,h1',by rw [loads_true hh (fleets_ok hh h1')]; exact h2,rfl⟩
 ·rintro ⟨f,h1,h2,rfl⟩
  exact ⟨f,⟨(mem_fleets hh.l.1).1 h1,by rw [← loads_true hh (fleets_ok hh h1)]; exact h2⟩,rfl⟩
theorem any_truth {h : RHarb} (hh : HOk h) (b : Nat) : anyT h b = okT h (listTo b h.reports.length) := by
 unfold anyT okT
 rw [Bool.eq_iff_iff,List.any_eq_true,decide_eq_true_eq,List.length_pos_iff_exists_mem]
 constructor
 ·rintro ⟨f,h1,h2⟩
  exact ⟨_,(truths_mem hh b).2 ⟨f,h1,h2,rfl⟩⟩
 ·rintro ⟨t,ht⟩
  obtain ⟨f,h1,h2,_⟩ := (truths_mem hh b).1 ht
  exact ⟨f,h1,h2⟩
theorem listTo_zero (n : Nat) : listTo 0 n = [] := by unfold listTo; simp
theorem any_zero {h : RHarb} (hh : HOk h) : anyT h 0 = decide (truthsR h [] ≠ []) := by
 rw [any_truth hh,listTo_zero]
 unfold okT
 rw [decide_eq_decide,List.length_pos_iff]
def enterE (h : RHarb) (many other : Int) (nums : List Int) : Int := if (checkH h).2.2 ≠ 0 then (checkH h).2.2 else if nums.any (offP 0 (many - 1)) = true then 4 else if other ≠ 0 then other else if anyT h 0 = true then 0 else 8
theorem enter_c (h : RHarb) (hs : hnamesFit h) (many other : Int) (nums : List Int) (hm : (checkH h).2.2 = 0 → -9223372036854775000 ≤ many ∧ many ≤ 9223372036854775807) (m : Mem) :
  ACall Tryz.prog 38 [harbA h,.int .i64 many,.int .i64 other,ints nums] m fun r m' => Keeps (fun _ => False) m m' ∧
   ((enterE h many other nums ≠ 0 ∧ r = .tuple [.nilptr,.int .i64 (enterE h many other nums)]) ∨ (enterE h many other nums = 0 ∧ ∃ bm,m bm = none ∧ r = .tuple [.eptr (lookedL h 0 bm),.int .i64 0] ∧ Known h 0 bm m')) := by
 have hck := check_c h hs
 have hoff := off_c 0 (many - 1) nums
 have hE : enterE h many other nums = if (checkH h).2.2 ≠ 0 then (checkH h).2.2 else if nums.any (offP 0 (many - 1)) = true then 4 else if other ≠ 0 then other else if anyT h 0 = true then 0 else 8 := rfl
 have hlook := fun m => look_c h 0 m
 have hsome := fun (q : (checkH h).2.2 = 0) (bm : Nat) (m : Mem) => someT_c h (hok_check q) 0 (by decide) bm m
 generalize enterE h many other nums = X at *
 generalize hW : checkH h = W at *
 simp only [harbA,harbL,ints,lookedL,Int.natCast_zero] at hck hoff hlook hsome ⊢
 (refine acall_intro (E := env fun _ => .imm) (envOk _) rfl Tryz.func38 rfl Tryz.call38 (by kernel_rfl) (by simp [Tryz.ntmps38]) ?_; simp only [Tryz.f38];  simp(maxSteps:=9^9)only[↓VX,VQ,seval])
 ((refine ACall.pure (hck) ?_; try simp(maxSteps:=9^9)only[↓VX,VQ,seval]); try simp(maxSteps:=9^9)only[↓VX,VQ,seval,GL])
 repeat'(first|intro _|apply And.intro)
 ·exact Keeps.refl _ _
 ·have q : ¬ W.2.2 = 0 := by assumption
  rw [if_pos q] at hE
  exact .inl ⟨by rw [hE]; exact q,by rw [hE]⟩
 ·have := hm (by omega); omega
 ·have := hm (by omega); omega
 have q : W.2.2 = 0 := by omega
 rw [if_neg (by omega)] at hE
 refine ACall.pure hoff ?_
 simp(maxSteps:=9^9)only[↓VX,VQ,seval]
 repeat'(first|intro _|apply And.intro)
 ·exact Keeps.refl _ _
 ·rw [if_pos (by assumption)] at hE
  subst hE
  exact .inl ⟨by decide,rfl⟩
 ·exact Keeps.refl _ _
 ·have q2 : ¬ other = 0 := by assumption
  rw [if_neg (by assumption),if_pos q2] at hE
  exact .inl ⟨by rw [hE]; exact q2,by rw [hE]⟩
 have q2 : other = 0 := by omega
 rw [if_neg (by assumption),if_neg (by omega)] at hE
 refine ACall.told (hlook m) ?_
 rintro r m1 ⟨bm,hbm,rfl,rfl⟩
 simp(maxSteps:=9^9)only[↓VX,VQ,seval]
 repeat'(first|intro _|apply And.intro)
 refine ACall.told (hsome q bm _ ⟨[],by simp,upd_same _ _ _⟩) ?_
 rintro r m2 ⟨rfl,hk,hkk⟩
 have hke : Keeps (fun _ => False) m m2 := by
  refine ⟨fun k x _ hx => ?_⟩
  have hne := ne_of_some hx hbm
  exact hkk k x hne (by rw [upd_ne _ _ hne]; exact hx)
 simp(maxSteps:=9^9)only[↓VX,VQ,seval]
 repeat'(first|intro _|apply And.intro)
 ·exact hke
 ·have q3 : anyT h 0 = false := by (first | assumption | (rw [← Bool.not_eq_false]; assumption) | (rw [← Bool.not_eq_true]; assumption) | omega)
  rw [q3] at hE
  have hE : X = 8 := hE
  subst hE
  exact .inl ⟨by decide,rfl⟩
 ·exact hke
 ·have q3 : anyT h 0 = true := by (first | assumption | (rw [← Bool.not_eq_false]; assumption) | (rw [← Bool.not_eq_true]; assumption) | omega)
  rw [if_pos q3] at hE
  exact .inr ⟨hE,bm,hbm,rfl,hk⟩
def dA (h : RHarb) (s : Nat) (port : Int) (x : List Fate) : Int := dayN h (fun i => x[i]!) s port
def loC (h : RHarb) (s : Nat) (port : Int) (L : List (List Fate)) : Int := L.foldl (fun a x => if dA h s port x < 61 then min a (dA h s port x) else a) 61
def hiC (h : RHarb) (s : Nat) (port : Int) (L : List (List Fate)) : Int := L.foldl (fun a x => if dA h s port x < 61 then max a (dA h s port x) else a) 0
def yesC (p : List Fate → Bool) (L : List (List Fate)) : Int := ((L.filter p).length : Nat)
theorem loC_snoc (h : RHarb) (s : Nat) (port : Int) (L : List (List Fate)) (x : List Fate) : loC h s port (L ++ [x]) = if dA h s port x < 61 then min (loC h s port L) (dA h s port x) else loC h s port L := by
 unfold loC; rw [List.foldl_append]; rfl
theorem hiC_snoc (h : RHarb) (s : Nat) (port : Int) (L : List (List Fate)) (x : List Fate) : hiC h s port (L ++ [x]) = if dA h s port x < 61 then max (hiC h s port L) (dA h s port x) else hiC h s port L := by
 unfold hiC; rw [List.foldl_append]; rfl
theorem yesC_snoc (p : List Fate → Bool) (L : List (List Fate)) (x : List Fate) : yesC p (L ++ [x]) = if p x = true then yesC p L + 1 else yesC p L := by
 unfold yesC
 rw [List.filter_append,List.length_append]
 by_cases q : p x = true
 ·rw [if_pos q]; simp [q]
 ·rw [if_neg q]; simp [q]
theorem yesC_le (p : List Fate → Bool) (L : List (List Fate)) : 0 ≤ yesC p L ∧ yesC p L ≤ (L.length : Int) := by
 have := List.length_filter_le p L
 unfold yesC; omega
theorem callsF_c (h : RHarb) (hh : HOk h) (b : Nat) (hb : b < 2 ^ 32) (bm s : Nat) (port : Int) (hs : s < h.ships.length) (m : Mem) (hkn : Known h b bm m) :
  ACall Tryz.prog 40 [.eptr (lookedL h b bm),.int .i64 s,.int .i64 port] m fun r m' => Known h b bm m' ∧ Keeps (fun k => k = bm) m m' ∧ ∃ L,Given h b [] (fleetsI h.ships h.lost) L ∧
   r = .tuple [.agg [.int .i64 (loC h s port L),.int .i64 (hiC h s port L)],.agg [.int .i64 (yesC (fun x => decide (dA h s port x < 61)) L),.int .i64 (L.length : Int)]] := by
 have htr := truthsF_c h b bm
 have hbn : ∃ y,m bm = some y := by obtain ⟨ls,k1,k2⟩ := hkn; exact ⟨_,k2⟩
 obtain ⟨yb,hbn⟩ := hbn
 have ht1 := fun (l : Nat) (S : Nat → Prop) (J : List (List Fate) → Mem → Prop) (F : Mem → Prop) (hy : YTok h b bm l S J F) (m : Mem) => truths1_c h hh b hb bm hy m
 have hday := fun (x : List Fate) (hx : FOk h x) => day_c h hh b bm (fun i => x[i]!) s port hs (hx.late _ (by rw [hx.n]; exact hs))
 simp only [lookedL,fleetA] at htr ht1 hday ⊢
 (refine acall_intro (E := envC (modeAt [8] [6,7]) false []) (envCOk _ _ _) rfl Tryz.func40 rfl Tryz.call40 (by kernel_rfl) (by simp [Tryz.ntmps40]) ?_; simp only [Tryz.f40];  simp(maxSteps:=9^9)only[↓VX,VQ,seval])
 intro b6 hb6 b7 hb7
 have n67 : b7 ≠ b6 := by rintro rfl; simp at hb7
 have hb7' : m b7 = none := by simpa [n67] using hb7
 have n6 := ne_of_some hbn hb6
 have n7 := ne_of_some hbn hb7'
 simp(maxSteps:=9^9)only[↓VX,VQ,seval,n67,n67.symm,buildV]
 repeat'(first|intro _|apply And.intro)
 (refine ACall.pure (htr) ?_; try simp(maxSteps:=9^9)only[↓VX,VQ,seval])
 refine arange rfl (f := 90) (first := []) (caps := [.eptr [.eptr (lookedL h b bm)]]) (by simp(maxSteps:=9^9)only[↓VX,VQ,seval,lookedL]) ?_
 intro l hl
 have hl7 : l ≠ b7 := by rintro rfl; simp [upd,n67] at hl
 have hl6 : l ≠ b6 := by rintro rfl; simp [upd,n67.symm] at hl
 have hl0 : m l = none := by simpa [upd,hl7,hl6] using hl
 have nl := ne_of_some hbn hl0
 generalize hR : LoopA.mk _ _ _ _ _ = R
 have hyok : YTok h b bm l (fun k => k = l ∨ k = b6 ∨ k = b7) (fun pre m1 => m1 l = some (.loop .ready none R) ∧ m1 b6 = some (.cells [.int .i64 (loC h s port pre),.int .i64 (hiC h s port pre)]) ∧
   m1 b7 = some (.cells [.int .i64 (yesC (fun x => decide (dA h s port x < 61)) pre),.int .i64 (pre.length : Int)])) (fun _ => False) := by
  refine ⟨fun pre x m1 hn hx hin ok hk hJ => ?_,fun pre m1 m2 hJ hs => ?_⟩
  ·obtain ⟨j3,j6,j7⟩ := hJ
   subst hR
   refine ayield (E := envC (modeAt [8] [6,7]) true []) (envCOk _ _ _) rfl j3 rfl (by rfl) (by rfl) (by rfl) ?_
   have hd := hday x hx
   have hdd := loC_snoc h s port pre x
   have hdh := hiC_snoc h s port pre x
   have hdy := yesC_snoc (fun x => decide (dA h s port x < 61)) pre x
   have hyl := yesC_le (fun x => decide (dA h s port x < 61)) pre
   have hadd := fun m hm => add_c b7 (yesC (fun x => decide (dA h s port x < 61)) pre) pre.length (decide (dA h s port x < 61)) (by omega) (by omega) m hm
   have hfl := fleetL_length fun i => x[i]!
   have hff := fleetL_flat fun i => x[i]!
   have hft := fleetL_take fun i => x[i]!
   change PCall _ _ _ (.int .i64 (dA h s port x)) at hd
   generalize dA h s port x = D at *
   generalize loC h s port pre = lo at *
   generalize hiC h s port pre = hi at *
   generalize yesC (fun x => decide (dA h s port x < 61)) pre = yes at *
   simp(maxSteps:=9^9)only[↓VX,VQ,seval,j3,keyA,fleetA,hfl,hff,hft]
   repeat'(first|intro _|apply And.intro)
   refine ACall.pure hd ?_
   simp(maxSteps:=9^9)only[↓VX,VQ,seval]
   repeat'(first|intro _|apply And.intro)
   refine ACall.told (hadd _ (by rw [upd_ne _ _ hl7.symm]; exact j7)) ?_
   rintro r m2 rfl
   simp(maxSteps:=9^9)only[↓VX,VQ,seval,j6,hl6,hl6.symm,hl7,hl7.symm,n67,n67.symm,buildV]
   repeat'(first|intro _|apply And.intro)
   ·exact ⟨fun k y hq hy => by simp only [not_or] at hq; simp only [upd,if_neg hq.1,if_neg hq.2.1,if_neg hq.2.2]; exact hy⟩
   ·have q : D < 61 := by assumption
    rw [if_pos q] at hdd hdh ⊢
    rw [decide_eq_true q,if_pos rfl] at hdy
    rw [hdd,hdh,hdy,List.length_append]
    exact .inl ⟨rfl,rfl⟩
   ·exact ⟨fun k y hq hy => by simp only [not_or] at hq; simp only [upd,if_neg hq.1,if_neg hq.2.1,if_neg hq.2.2]; exact hy⟩
   ·have q : ¬ D < 61 := by assumption
    rw [if_neg q] at hdd hdh ⊢
    rw [decide_eq_false q,if_neg (by decide)] at hdy
    rw [hdd,hdh,hdy,List.length_append]
    exact .inl ⟨rfl,rfl⟩
  ·obtain ⟨j3,j6,j7⟩ := hJ
   exact ⟨by rw [hs l (.inl rfl)]; exact j3,by rw [hs b6 (.inr (.inl rfl))]; exact j6,by rw [hs b7 (.inr (.inr rfl))]; exact j7⟩
 have hdom : ∀ k y,m k = some y → k ≠ l ∧ k ≠ b6 ∧ k ≠ b7 := fun k y hy => ⟨ne_of_some hy hl0,ne_of_some hy hb6,ne_of_some hy hb7'⟩
 refine ACall.mono (ht1 l _ _ _ hyok _ ?_ ?_ ?_ ?_) ?_ <;> (try dsimp only)
 ·obtain ⟨ls,k1,k2⟩ := hkn
  exact ⟨ls,k1,by simp [upd,nl,n6,n7]; exact k2⟩
 ·rintro k (rfl | rfl | rfl)
  ·simp [upd]
  ·simp [upd,hl6.symm,n67.symm]
  ·simp [upd,hl7.symm,n67]
 ·rintro (e | e | e)
  ·exact nl e
  ·exact n6 e
  ·exact n7 e
 ·exact ⟨upd_same _ _ _,by simp [upd,hl6.symm,loC,hiC],by simp [upd,hl7.symm,n67,yesC]⟩
 ·rintro r m' ⟨k1,k2,k3⟩
  have kk : Keeps (fun k => k = bm) m m' := by
   refine ⟨fun k y hq hy => ?_⟩
   obtain ⟨a1,a2,a3⟩ := hdom k y hy
   exact k1 k y (by rintro ((e | e | e) | e); exact a1 e; exact a2 e; exact a3 e; exact hq e) (by simp [upd,a1,a2,a3]; exact hy)
  clear ht1 hyok
  rcases k3 with ⟨L,⟨j3,j6,j7⟩,g⟩ | hF
  ·simp(maxSteps:=9^9)only[↓VX,VQ,seval,j3,j6,j7,hl6,hl6.symm,hl7,hl7.symm]
   (refine adraw (by first | exact envOk _ | exact envCOk _ _ _) mixed [⟨false,false,0⟩,⟨true,false,10⟩,⟨false,false,0⟩,⟨false,false,0⟩] (by kernel_rfl) ?_; show vcOpsD _ _ _ (_ :: _) _ _)
   simp(maxSteps:=9^9)only[↓VX,VQ,seval,j3,j6,j7,hl6,hl6.symm,hl7,hl7.symm,n67,n67.symm,hidM,isLook,maskM]
   refine ⟨?_,⟨fun k y hq hy => ?_⟩,L,g,rfl⟩
   ·obtain ⟨ls,q1,q2⟩ := k2
    exact ⟨ls,q1,by simp [upd,nl,n6,n7]; exact q2⟩
   ·obtain ⟨a1,a2,a3⟩ := hdom k y hy
    simp [upd,a1,a2,a3]
    exact kk k y hq hy
  ·exact hF.elim
structure Same (h : RHarb) (L : List (List Fate)) : Prop where
 fok : ∀ x ∈ L,FOk h x
 ok : ∀ x ∈ L,loadsOk h 0 x = true
 a : ∀ t ∈ truthsR h [],∃ x ∈ L,t = truOf h [] x
 b : ∀ x ∈ L,truOf h [] x ∈ truthsR h []
theorem given_same {h : RHarb} (hh : HOk h) {L : List (List Fate)} (g : Given h 0 [] (fleetsI h.ships h.lost) L) : Same h L := by
 have hm := fun t => truths_mem hh 0 (t := t)
 simp only [listTo_zero] at hm
 refine ⟨fun x hx => fleets_ok hh (g.s x hx).1,fun x hx => (g.s x hx).2,fun t ht => ?_,fun x hx => ?_⟩
 ·obtain ⟨f,h1,h2,h3⟩ := (hm t).1 ht
  exact ⟨f,by simpa using g.c f h1 h2,h3⟩
 ·exact (hm _).2 ⟨x,(g.s x hx).1,(g.s x hx).2,rfl⟩
theorem settled_same {a n a' n' : Int} (h1 : a = n ↔ a' = n') (h2 : a = 0 ↔ a' = 0) : settledR a n = settledR a' n' := by
 unfold settledR
 by_cases q : a = n
 ·rw [if_pos q,if_pos (h1.1 q)]
 ·rw [if_neg q,if_neg fun e => q (h1.2 e)]
  by_cases q2 : a = 0
  ·rw [if_pos q2,if_pos (h2.1 q2)]
  ·rw [if_neg q2,if_neg fun e => q2 (h2.2 e)]
theorem yesC_all {p : List Fate → Bool} {L : List (List Fate)} : yesC p L = (L.length : Int) ↔ ∀ x ∈ L,p x = true := by
 unfold yesC
 rw [← List.length_filter_eq_length_iff]
 omega
theorem yesC_none {p : List Fate → Bool} {L : List (List Fate)} : yesC p L = 0 ↔ ∀ x ∈ L,p x = false := by
 unfold yesC
 constructor
 ·intro e x hx
  have h0 : (L.filter p).length = 0 := by omega
  rw [List.length_eq_zero_iff,List.filter_eq_nil_iff] at h0
  simpa using h0 x hx
 ·intro e
  have : L.filter p = [] := by rw [List.filter_eq_nil_iff]; intro x hx; rw [e x hx]; simp
  rw [this]; rfl
theorem lo_fold (d : List Fate → Int) : ∀ (L : List (List Fate)) (a : Int),let r := L.foldl (fun a x => if d x < 61 then min a (d x) else a) a
  r ≤ a ∧ (∀ x ∈ L,d x < 61 → r ≤ d x) ∧ (r = a ∨ ∃ x ∈ L,d x < 61 ∧ r = d x)
 | [],a => by simp
 | x :: L,a => by
  have ih := lo_fold d L (if d x < 61 then min a (d x) else a)
  simp only [List.foldl_cons]
  obtain ⟨h1,h2,h3⟩ := ih
  generalize L.foldl (fun a x => if d x < 61 then min a (d x) else a) (if d x < 61 then min a (d x) else a) = r at *
  refine ⟨by split at h1 <;> omega,fun y hy hd => ?_,?_⟩
  ·rcases List.mem_cons.1 hy with rfl | hy
   ·rw [if_pos hd] at h1; omega
   ·exact h2 y hy hd
  ·rcases h3 with h3 | ⟨y,hy,hd,h3⟩
   ·by_cases q : d x < 61
    ·rw [if_pos q] at h3
     by_cases q2 : a ≤ d x
     ·left; rw [h3]; omega
     ·right; exact ⟨x,by simp,q,by rw [h3]; omega⟩
    ·rw [if_neg q] at h3; exact .inl h3
   ·exact .inr ⟨y,by simp [hy],hd,h3⟩
theorem hi_fold (d : List Fate → Int) : ∀ (L : List (List Fate)) (a : Int),let r := L.foldl (fun a x => if d x < 61 then max a (d x) else a) a
  a ≤ r ∧ (∀ x ∈ L,d x < 61 → d x ≤ r) ∧ (r = a ∨ ∃ x ∈ L,d x < 61 ∧ r = d x)
 | [],a => by simp
 | x :: L,a => by
  have ih := hi_fold d L (if d x < 61 then max a (d x) else a)
  simp only [List.foldl_cons]
  obtain ⟨h1,h2,h3⟩ := ih
  generalize L.foldl (fun a x => if d x < 61 then max a (d x) else a) (if d x < 61 then max a (d x) else a) = r at *
  refine ⟨by split at h1 <;> omega,fun y hy hd => ?_,?_⟩
  ·rcases List.mem_cons.1 hy with rfl | hy
   ·rw [if_pos hd] at h1; omega
   ·exact h2 y hy hd
  ·rcases h3 with h3 | ⟨y,hy,hd,h3⟩
   ·by_cases q : d x < 61
    ·rw [if_pos q] at h3
     by_cases q2 : d x ≤ a
     ·left; rw [h3]; omega
     ·right; exact ⟨x,by simp,q,by rw [h3]; omega⟩
    ·rw [if_neg q] at h3; exact .inl h3
   ·exact .inr ⟨y,by simp [hy],hd,h3⟩
theorem called_is (h : RHarb) (l : List RTru) (s : Nat) (port : Int) : ∀ n,n ≤ l.length → let c := calledTo h l s port n
  (c.2 = (n : Int) ↔ ∀ i,i < n → 0 ≤ dayR h (l[i]!).fleet s port) ∧ (c.2 = 0 ↔ ∀ i,i < n → dayR h (l[i]!).fleet s port < 0) ∧ (c.2 = 0 → c.1 = (0,0)) ∧
  (c.2 ≠ 0 → (∀ i,i < n → 0 ≤ dayR h (l[i]!).fleet s port → c.1.1 ≤ dayR h (l[i]!).fleet s port ∧ dayR h (l[i]!).fleet s port ≤ c.1.2) ∧
   (∃ i,i < n ∧ 0 ≤ dayR h (l[i]!).fleet s port ∧ c.1.1 = dayR h (l[i]!).fleet s port) ∧ (∃ i,i < n ∧ 0 ≤ dayR h (l[i]!).fleet s port ∧ c.1.2 = dayR h (l[i]!).fleet s port))
 | 0,_ => by simp [calledTo]
 | n + 1,hn => by
  have ih := called_is h l s port n (by omega)
  have hle := called_le h l s port n
  simp only at ih ⊢
  obtain ⟨h1,h2,h3,h4⟩ := ih
  have hlt : ∀ {P : Nat → Prop},(∀ i,i < n + 1 → P i) ↔ (∀ i,i < n → P i) ∧ P n := fun {P} => by
   constructor
   ·intro q; exact ⟨fun i hi => q i (by omega),q n (by omega)⟩
   ·rintro ⟨q1,q2⟩ i hi
    by_cases e : i = n
    ·subst e; exact q2
    ·exact q1 i (by omega)
  unfold calledTo
  generalize hd : dayR h (l[n]!).fleet s port = d at *
  generalize calledTo h l s port n = c at *
  simp only [hlt]
  by_cases q : d < 0
  ·rw [if_pos q]
   rw [hd]
   refine ⟨⟨fun e => by omega,fun e => by omega⟩,⟨fun e => ⟨h2.1 e,q⟩,fun e => h2.2 e.1⟩,h3,fun e => ?_⟩
   obtain ⟨a1,⟨i,a2,a3,a4⟩,⟨j,b2,b3,b4⟩⟩ := h4 e
   exact ⟨⟨a1,fun q' => by omega⟩,⟨i,by omega,a3,a4⟩,⟨j,by omega,b3,b4⟩⟩
  ·rw [if_neg q]
   rw [hd]
   by_cases q2 : c.2 = 0
   ·rw [if_pos q2]
    have hall := h2.1 q2
    refine ⟨⟨fun e => ⟨fun i hi => ?_,by omega⟩,fun e => ?_⟩,⟨fun e => by simp at e,fun e => absurd e.2 q⟩,fun e => by simp at e,fun _ => ⟨⟨fun i hi hp => ?_,fun _ => ⟨Int.le_refl _,Int.le_refl _⟩⟩,⟨n,by omega,by rw [hd]; omega,hd.symm⟩,⟨n,by omega,by rw [hd]; omega,hd.symm⟩⟩⟩
    ·simp at e; omega
    ·have hn0 : n = 0 := by
      apply Decidable.byContradiction; intro hne
      have := e.1 0 (by omega); have := hall 0 (by omega); omega
     subst hn0; rfl
    ·have := hall i hi; omega
   ·rw [if_neg q2]
    obtain ⟨a1,⟨i,a2,a3,a4⟩,⟨j,b2,b3,b4⟩⟩ := h4 q2
    refine ⟨⟨fun e => ⟨h1.1 (by simp at e; omega),by omega⟩,fun e => by have := h1.2 e.1; simp; omega⟩,⟨fun e => by simp at e; omega,fun e => absurd e.2 q⟩,fun e => by simp at e; omega,fun _ => ⟨⟨fun k hk hp => ?_,fun _ => ?_⟩,?_,?_⟩⟩
    ·have := a1 k hk hp; dsimp only; omega
    ·dsimp only; omega
    ·by_cases q3 : c.1.1 ≤ d
     ·exact ⟨i,by omega,a3,by dsimp only; omega⟩
     ·exact ⟨n,by omega,by rw [hd]; omega,by dsimp only; omega⟩
    ·by_cases q3 : d ≤ c.1.2
     ·exact ⟨j,by omega,b3,by dsimp only; omega⟩
     ·exact ⟨n,by omega,by rw [hd]; omega,by dsimp only; omega⟩
theorem at_mem {l : List RTru} {i : Nat} (hi : i < l.length) : l[i]! ∈ l := by rw [getD_any hi]; exact List.getElem_mem hi
theorem calls_same {h : RHarb} (hh : HOk h) {L : List (List Fate)} (g : Same h L) {s : Nat} (hs : s < h.ships.length) (port : Int) :
  settledR (yesC (fun x => decide (dA h s port x < 61)) L) L.length = settledR (calledTo h (truthsR h []) s port (truthsR h []).length).2 (truthsR h []).length ∧
  (yesC (fun x => decide (dA h s port x < 61)) L = 0 ↔ (calledTo h (truthsR h []) s port (truthsR h []).length).2 = 0) ∧
  (yesC (fun x => decide (dA h s port x < 61)) L = L.length ↔ (calledTo h (truthsR h []) s port (truthsR h []).length).2 = (truthsR h []).length) ∧
  (yesC (fun x => decide (dA h s port x < 61)) L ≠ 0 → (loC h s port L,hiC h s port L) = (calledTo h (truthsR h []) s port (truthsR h []).length).1) ∧
  (yesC (fun x => decide (dA h s port x < 61)) L = 0 → (calledTo h (truthsR h []) s port (truthsR h []).length).1 = (0,0)) := by
 have hc := called_is h (truthsR h []) s port (truthsR h []).length (Nat.le_refl _)
 have hday : ∀ x ∈ L,dA h s port x = if dayR h x s port < 0 then 61 else dayR h x s port := fun x hx => dayN_R hh (g.fok x hx) hs port
 have hdle : ∀ x ∈ L,dayR h x s port ≤ 43 := fun x hx => (dayR_le hh (g.fok x hx) hs port).2
 have hall : ∀ P : Int → Prop,(∀ i,i < (truthsR h []).length → P (dayR h ((truthsR h [])[i]!).fleet s port)) ↔ ∀ x ∈ L,P (dayR h x s port) := fun P => by
  constructor
  ·intro q x hx
   obtain ⟨i,hi,e⟩ := List.getElem_of_mem (g.b x hx)
   have := q i hi
   rw [getD_any hi,e] at this
   exact this
  ·intro q i hi
   obtain ⟨x,hx,e⟩ := g.a _ (at_mem hi)
   rw [e]; exact q x hx
 have hex : ∀ P : Int → Prop,(∃ i,i < (truthsR h []).length ∧ P (dayR h ((truthsR h [])[i]!).fleet s port)) ↔ ∃ x ∈ L,P (dayR h x s port) := fun P => by
  constructor
  ·rintro ⟨i,hi,hp⟩
   obtain ⟨x,hx,e⟩ := g.a _ (at_mem hi)
   rw [e] at hp; exact ⟨x,hx,hp⟩
  ·rintro ⟨x,hx,hp⟩
   obtain ⟨i,hi,e⟩ := List.getElem_of_mem (g.b x hx)
   exact ⟨i,hi,by rw [getD_any hi,e]; exact hp⟩
 simp only at hc
 generalize calledTo h (truthsR h []) s port (truthsR h []).length = c at *
 obtain ⟨c1,c2,c3,c4⟩ := hc
 have y1 : yesC (fun x => decide (dA h s port x < 61)) L = L.length ↔ c.2 = (truthsR h []).length := by
  rw [yesC_all,c1,hall (fun d => 0 ≤ d)]
  constructor
  ·intro q x hx
   have := q x hx
   rw [decide_eq_true_eq,hday x hx] at this
   split at this <;> omega
  ·intro q x hx
   have := q x hx
   have := hdle x hx
   rw [decide_eq_true_eq,hday x hx,if_neg (by omega)]; omega
 have y2 : yesC (fun x => decide (dA h s port x < 61)) L = 0 ↔ c.2 = 0 := by
  rw [yesC_none,c2,hall (fun d => d < 0)]
  constructor
  ·intro q x hx
   have := q x hx
   have := hdle x hx
   rw [decide_eq_false_iff_not,hday x hx] at *
   split at * <;> omega
  ·intro q x hx
   have := q x hx
   rw [decide_eq_false_iff_not,hday x hx,if_pos (by omega)]; omega
 refine ⟨settled_same y1 y2,y2,y1,fun q => ?_,fun q => c3 (y2.1 q)⟩
 have q' : c.2 ≠ 0 := fun e => q (y2.2 e)
 obtain ⟨a1,a2,a3⟩ := c4 q'
 rw [hall (fun d => 0 ≤ d → c.1.1 ≤ d ∧ d ≤ c.1.2)] at a1
 rw [hex (fun d => 0 ≤ d ∧ c.1.1 = d)] at a2
 rw [hex (fun d => 0 ≤ d ∧ c.1.2 = d)] at a3
 obtain ⟨x,hx,hx0,hx1⟩ := a2
 obtain ⟨y,hy,hy0,hy1⟩ := a3
 have dx := hday x hx
 have dy := hday y hy
 rw [if_neg (by omega)] at dx dy
 have lx := hdle x hx
 have ly := hdle y hy
 obtain ⟨l1,l2,l3⟩ := lo_fold (dA h s port) L 61
 obtain ⟨m1,m2,m3⟩ := hi_fold (dA h s port) L 0
 have e1 : loC h s port L = c.1.1 := by
  change loC h s port L ≤ 61 at l1
  change ∀ x ∈ L,dA h s port x < 61 → loC h s port L ≤ dA h s port x at l2
  change loC h s port L = 61 ∨ ∃ x ∈ L,dA h s port x < 61 ∧ loC h s port L = dA h s port x at l3
  have := l2 x hx (by omega)
  rcases l3 with l3 | ⟨z,hz,hz1,hz2⟩
  ·omega
  ·have dz := hday z hz
   split at dz
   ·omega
   ·have := a1 z hz (by omega); omega
 have e2 : hiC h s port L = c.1.2 := by
  change 0 ≤ hiC h s port L at m1
  change ∀ x ∈ L,dA h s port x < 61 → dA h s port x ≤ hiC h s port L at m2
  change hiC h s port L = 0 ∨ ∃ x ∈ L,dA h s port x < 61 ∧ hiC h s port L = dA h s port x at m3
  have := m2 y hy (by omega)
  rcases m3 with m3 | ⟨z,hz,hz1,hz2⟩
  ·have := a1 y hy hy0; omega
  ·have dz := hday z hz
   split at dz
   ·omega
   ·have := a1 z hz (by omega); omega
 rw [e1,e2]
theorem known_same {h : RHarb} (hh : HOk h) : (knownR h 0).2 = if anyT h 0 = true then 0 else 8 := by
 unfold knownR
 rw [if_neg (by simp),any_zero hh]
 by_cases q : truthsR h [] = []
 ·rw [if_pos q]; simp [q]
 ·rw [if_neg q]; simp [q]
theorem known_err {h : RHarb} {e : Int} (he : e ≠ 0) : knownR h e = ([],e) := by unfold knownR; rw [if_pos he]
theorem enter_zero {h : RHarb} {many other : Int} {nums : List Int} (e : enterE h many other nums = 0) : (checkH h).2.2 = 0 ∧ (∀ x ∈ nums,0 ≤ x ∧ x ≤ many - 1) ∧ other = 0 ∧ anyT h 0 = true := by
 unfold enterE at e
 split at e
 ·rename_i q; exact absurd e q
 ·rename_i q
  split at e
  ·cases e
  ·rename_i q2
   split at e
   ·rename_i q3; exact absurd e q3
   ·rename_i q3
    split at e
    ·rename_i q4
     refine ⟨by omega,fun x hx => ?_,by omega,q4⟩
     rw [Bool.not_eq_true,List.any_eq_false] at q2
     have := q2 x hx
     rw [Bool.not_eq_true,offP_false] at this
     exact this
    ·cases e
theorem known_enter {h : RHarb} {e many other : Int} {nums : List Int} (h1 : (checkH h).2.2 ≠ 0 → e = (checkH h).2.2) (h2 : (checkH h).2.2 = 0 → e = if nums.any (offP 0 (many - 1)) = true then 4 else other) : (knownR h e).2 = enterE h many other nums := by
 unfold enterE
 by_cases q : (checkH h).2.2 = 0
 ·have h2 := h2 q
  rw [if_neg (by omega)]
  by_cases q1 : nums.any (offP 0 (many - 1)) = true
  ·rw [if_pos q1] at h2 ⊢
   rw [h2,known_err (by decide)]
  ·rw [if_neg q1] at h2 ⊢
   subst h2
   by_cases q2 : e = 0
   ·subst q2
    rw [if_neg (by simp),known_same (hok_check q)]
   ·rw [if_pos q2,known_err q2]
 ·rw [if_pos q,h1 q,known_err q]
theorem indexE_bad {c n b : Int} (hc : c ≠ 0) : indexE c n b = c := by unfold indexE; rw [if_neg hc]
theorem indexE_good {n b : Int} : indexE 0 n b = if offP 0 (b - 1) n = true then 4 else 0 := by unfold indexE; rw [if_pos rfl]
def callE2 (h : RHarb) (ship port : Int) : Int := if indexE (checkH h).2.2 ship h.ships.length = 0 then indexE (checkH h).2.2 port h.ports else indexE (checkH h).2.2 ship h.ships.length
theorem callsR_is (h : RHarb) (ship port : Int) : callsR h ship port = if (knownR h (callE2 h ship port)).2 = 0 then ((calledTo h (knownR h (callE2 h ship port)).1 ship.toNat port (knownR h (callE2 h ship port)).1.length).1,settledR (calledTo h (knownR h (callE2 h ship port)).1 ship.toNat port (knownR h (callE2 h ship port)).1.length).2 (knownR h (callE2 h ship port)).1.length,0) else ((0,0),0,(knownR h (callE2 h ship port)).2) := rfl
theorem callE2_known {h : RHarb} {ship port : Int} : (knownR h (callE2 h ship port)).2 = enterE h h.ships.length (if offP 0 (h.ports - 1) port = true then 4 else 0) [ship] := by
 refine known_enter (fun q => ?_) (fun q => ?_)
 ·unfold callE2; rw [indexE_bad q,if_neg q]
 ·unfold callE2
  rw [q,indexE_good,indexE_good]
  simp only [List.any_cons,List.any_nil,Bool.or_false]
  by_cases q1 : offP 0 ((h.ships.length : Int) - 1) ship = true
  ·simp only [if_pos q1]; rfl
  ·simp only [if_neg q1,if_true]
theorem callsR_err {h : RHarb} {ship port : Int} : (callsR h ship port).2.2 = enterE h h.ships.length (if offP 0 (h.ports - 1) port = true then 4 else 0) [ship] := by
 rw [← callE2_known,callsR_is]
 split
 ·rename_i q; exact q.symm
 ·rfl
theorem callsR_bad {h : RHarb} {ship port : Int} (e : (callsR h ship port).2.2 ≠ 0) : callsR h ship port = ((0,0),0,(callsR h ship port).2.2) := by
 rw [callsR_is] at e ⊢
 split at e
 ·exact absurd rfl e
 ·rename_i q; rw [if_neg q]
theorem callsR_good {h : RHarb} {ship port : Int} (e : (callsR h ship port).2.2 = 0) : callsR h ship port = ((calledTo h (truthsR h []) ship.toNat port (truthsR h []).length).1,settledR (calledTo h (truthsR h []) ship.toNat port (truthsR h []).length).2 (truthsR h []).length,0) := by
 rw [callsR_is] at e ⊢
 split at e
 ·rename_i q
  obtain ⟨k1,k2,k3⟩ := known_zero q
  rw [if_pos q,k2]
 ·rename_i q; exact absurd e q
theorem calls_top (h : RHarb) (hs : hnamesFit h) (ship port : Int) (hp : -9223372036854775807 ≤ h.ports ∧ h.ports ≤ 9223372036854775807) :
  PCall Tryz.prog 20 [harbA h,.int .i64 ship,.int .i64 port] (.tuple [.agg [.int .i64 (callsR h ship port).1.1,.int .i64 (callsR h ship port).1.2],.int .i64 (callsR h ship port).2.1,.int .i64 (callsR h ship port).2.2]) := by
 intro m
 refine ACall.forget ?_
 have hoff := off_c 0 (h.ports - 1) [port]
 have hen := fun other m => enter_c h hs h.ships.length other [ship] (fun q => by have := (hok_check q).n; omega) m
 have hE := callsR_err (h := h) (ship := ship) (port := port)
 have hbad := callsR_bad (h := h) (ship := ship) (port := port)
 have hgood := callsR_good (h := h) (ship := ship) (port := port)
 have hhow := how_c
 simp only [List.any_cons,List.any_nil,Bool.or_false] at hoff
 generalize callsR h ship port = R at *
 simp only [harbA,harbL,ints,List.map_cons,List.map_nil] at hoff hen ⊢
 (refine acall_intro (E := envC (modeAt [] [6,11]) false []) (envCOk _ _ _) rfl Tryz.func20 rfl Tryz.call20 (by kernel_rfl) (by simp [Tryz.ntmps20]) ?_; simp only [Tryz.f20];  simp(maxSteps:=9^9)only[↓VX,VQ,seval])
 intro b6 hb6
 repeat'(first|intro _|apply And.intro)
 all_goals try omega
 refine ACall.pure hoff ?_
 simp(maxSteps:=9^9)only[↓VX,VQ,seval]
 repeat'(first|intro _|apply And.intro)
 ·rw [if_pos (by assumption)] at hE
  refine ACall.told (hen 4 _) ?_
  rintro r m1 ⟨kk,⟨hz,rfl⟩ | ⟨hz,_⟩⟩
  ·rw [← hE] at hz
   have hb := hbad hz
   rw [← hE]
   generalize R.2.2 = e at *
   subst hb
   have j6 := kk b6 _ (fun h => h) (upd_same _ _ _)
   simp(maxSteps:=9^9)only[↓VX,VQ,seval,hz,j6]
   exact ⟨m,fun b x hx => by rw [if_neg (ne_of_some hx hb6)]; exact kk b x (fun h => h) (by rw [upd_ne _ _ (ne_of_some hx hb6)]; exact hx),rfl⟩
  ·exact absurd (enter_zero hz).2.2.1 (by decide)
 ·rw [if_neg (by assumption)] at hE
  refine ACall.told (hen 0 _) ?_
  rintro r m1 ⟨kk,⟨hz,rfl⟩ | ⟨hz,bm,hbm,rfl,hkn⟩⟩
  ·rw [← hE] at hz
   have hb := hbad hz
   rw [← hE]
   generalize R.2.2 = e at *
   subst hb
   have j6 := kk b6 _ (fun h => h) (upd_same _ _ _)
   simp(maxSteps:=9^9)only[↓VX,VQ,seval,hz,j6]
   exact ⟨m,fun b x hx => by rw [if_neg (ne_of_some hx hb6)]; exact kk b x (fun h => h) (by rw [upd_ne _ _ (ne_of_some hx hb6)]; exact hx),rfl⟩
  ·obtain ⟨z1,z2,z3,z4⟩ := enter_zero hz
   have hsh := z2 ship (by simp)
   have hh := hok_check z1
   have hsl : ship.toNat < h.ships.length := by omega
   have n6 : bm ≠ b6 := by rintro rfl; rw [upd_same] at hbm; cases hbm
   rw [upd_ne _ _ n6] at hbm
   have j6 := kk b6 _ (fun h => h) (upd_same _ _ _)
   have hcf := callsF_c h hh 0 (by decide) bm ship.toNat port hsl m1 hkn
   rw [Int.toNat_of_nonneg hsh.1] at hcf
   have hR := hgood (by rw [hE]; exact hz)
   simp only [lookedL,Int.natCast_zero] at hcf ⊢
   simp(maxSteps:=9^9)only[↓VX,VQ,seval]
   repeat'(first|intro _|apply And.intro)
   refine ACall.told hcf ?_
   rintro r m2 ⟨k1,k2,L,g,rfl⟩
   obtain ⟨c1,c2,c3,c4,c5⟩ := calls_same hh (given_same hh g) hsl port
   subst hR
   have i6 := k2 b6 _ n6.symm j6
   have hke : ∀ b x,m b = some x → m2 b = some x ∧ b ≠ b6 := fun b x hx => ⟨k2 b x (ne_of_some hx hbm) (kk b x (fun h => h) (by rw [upd_ne _ _ (ne_of_some hx hb6)]; exact hx)),ne_of_some hx hb6⟩
   clear hcf hen hbad hgood
   simp(maxSteps:=9^9)only[↓VX,VQ,seval]
   intro b11 hb11
   have n11 := ne_of_some i6 hb11
   simp(maxSteps:=9^9)only[↓VX,VQ,seval,i6,n11,n11.symm]
   have hke2 : ∀ b x,m b = some x → b ≠ b11 := fun b x hx => ne_of_some (hke b x hx).1 hb11
   refine ⟨fun q => ?_,fun q => ?_⟩
   ·rw [← c1,c5 q]
    (refine adraw (by first | exact envOk _ | exact envCOk _ _ _) mixed [⟨false,false,0⟩,⟨true,false,10⟩,⟨true,false,0⟩,⟨false,false,0⟩,⟨false,false,0⟩,⟨false,false,0⟩] (by kernel_rfl) ?_; show vcOpsD _ _ _ (_ :: _) _ _)
    simp(maxSteps:=9^9)only[↓VX,VQ,seval,hidM,isLook,maskM,n11,n11.symm]
    refine VPure.of (hhow _ _) ?_
    simp(maxSteps:=9^9)only[↓VX,VQ,seval,hidM,isLook,maskM,n11,n11.symm]
    refine ⟨m,fun b x hx => ?_,rfl⟩
    obtain ⟨e1,e2⟩ := hke b x hx
    simp only [if_neg e2,if_neg (hke2 b x hx)]
    exact e1
   ·rw [← c1,← c4 q]
    (refine adraw (by first | exact envOk _ | exact envCOk _ _ _) mixed [⟨false,false,0⟩,⟨true,false,10⟩,⟨true,false,0⟩,⟨false,false,0⟩,⟨false,false,0⟩,⟨false,false,0⟩] (by kernel_rfl) ?_; show vcOpsD _ _ _ (_ :: _) _ _)
    simp(maxSteps:=9^9)only[↓VX,VQ,seval,hidM,isLook,maskM,n11,n11.symm]
    refine VPure.of (hhow _ _) ?_
    simp(maxSteps:=9^9)only[↓VX,VQ,seval,hidM,isLook,maskM,n11,n11.symm]
    refine ⟨m,fun b x hx => ?_,rfl⟩
    obtain ⟨e1,e2⟩ := hke b x hx
    simp only [if_neg e2,if_neg (hke2 b x hx)]
    exact e1
def allS (h : RHarb) (L : List (List Fate)) (i : Nat) : Bool := L.all fun x => sinksB h (fun k => x[k]!) i
def someS (h : RHarb) (L : List (List Fate)) (i : Nat) : Bool := L.any fun x => sinksB h (fun k => x[k]!) i
theorem setOf_and (f g : Nat → Bool) (n : Nat) : setOf f n &&& setOf g n = setOf (fun i => f i && g i) n := by
 refine Nat.eq_of_testBit_eq fun i => ?_
 rw [Nat.testBit_and,setOf_bit,setOf_bit,setOf_bit]
 cases decide (i < n) <;> simp
theorem setOf_or (f g : Nat → Bool) (n : Nat) : setOf f n ||| setOf g n = setOf (fun i => f i || g i) n := by
 refine Nat.eq_of_testBit_eq fun i => ?_
 rw [Nat.testBit_or,setOf_bit,setOf_bit,setOf_bit]
 cases decide (i < n) <;> simp
theorem setOf_true (n : Nat) : setOf (fun _ => true) n = 2 ^ n - 1 := by
 refine Nat.eq_of_testBit_eq fun i => ?_
 rw [setOf_bit,Nat.testBit_two_pow_sub_one]; simp
theorem setOf_false (n : Nat) : setOf (fun _ => false) n = 0 := by
 refine Nat.eq_of_testBit_eq fun i => ?_
 rw [setOf_bit]; simp
theorem allS_snoc (h : RHarb) (L : List (List Fate)) (x : List Fate) (n : Nat) : setOf (allS h (L ++ [x])) n = setOf (allS h L) n &&& lostS h (fun k => x[k]!) n := by
 unfold lostS
 rw [setOf_and]
 refine setOf_ext fun i _ => ?_
 simp [allS]
theorem someS_snoc (h : RHarb) (L : List (List Fate)) (x : List Fate) (n : Nat) : setOf (someS h (L ++ [x])) n = setOf (someS h L) n ||| lostS h (fun k => x[k]!) n := by
 unfold lostS
 rw [setOf_or]
 refine setOf_ext fun i _ => ?_
 simp [someS]
theorem mem_lostL {h : RHarb} {l : List Fate} {n s : Nat} : (s : Int) ∈ lostL h l n ↔ s < n ∧ sinksB h (fun k => l[k]!) s = true := by
 unfold lostL sinksB
 simp only [List.mem_map,List.mem_filter,List.mem_range]
 constructor
 ·rintro ⟨j,⟨h1,h2⟩,h3⟩
  have : j = s := by omega
  subst this; exact ⟨h1,h2⟩
 ·rintro ⟨h1,h2⟩; exact ⟨s,⟨h1,h2⟩,rfl⟩
theorem sinkN_is (h : RHarb) (l : List RTru) (s : Nat) : ∀ n,(sinkN h l s n = (n : Int) ↔ ∀ i,i < n → (s : Int) ∈ lostL h (l[i]!).fleet (l[i]!).fleet.length) ∧ (0 < sinkN h l s n ↔ ∃ i,i < n ∧ (s : Int) ∈ lostL h (l[i]!).fleet (l[i]!).fleet.length)
 | 0 => by simp [sinkN]
 | n + 1 => by
  obtain ⟨h1,h2⟩ := sinkN_is h l s n
  have hle := sinkN_le h l s n
  unfold sinkN
  by_cases q : (s : Int) ∈ lostL h (l[n]!).fleet (l[n]!).fleet.length
  ·rw [if_pos q]
   refine ⟨⟨fun e i hi => ?_,fun e => ?_⟩,⟨fun _ => ⟨n,by omega,q⟩,fun _ => by omega⟩⟩
   ·by_cases e2 : i = n
    ·subst e2; exact q
    ·exact h1.1 (by omega) i (by omega)
   ·have := h1.2 fun i hi => e i (by omega)
    omega
  ·rw [if_neg q]
   refine ⟨⟨fun e => by omega,fun e => absurd (e n (by omega)) q⟩,⟨fun e => ?_,?_⟩⟩
   ·obtain ⟨i,hi,hp⟩ := h2.1 (by omega)
    exact ⟨i,by omega,hp⟩
   ·rintro ⟨i,hi,hp⟩
    have : i ≠ n := by rintro rfl; exact q hp
    have := h2.2 ⟨i,by omega,hp⟩
    omega
theorem same_all {h : RHarb} {L : List (List Fate)} (g : Same h L) (P : RTru → Prop) : (∀ i,i < (truthsR h []).length → P ((truthsR h [])[i]!)) ↔ ∀ x ∈ L,P (truOf h [] x) := by
 constructor
 ·intro q x hx
  obtain ⟨i,hi,e⟩ := List.getElem_of_mem (g.b x hx)
  have := q i hi
  rw [getD_any hi,e] at this
  exact this
 ·intro q i hi
  obtain ⟨x,hx,e⟩ := g.a _ (at_mem hi)
  rw [e]; exact q x hx
theorem same_ex {h : RHarb} {L : List (List Fate)} (g : Same h L) (P : RTru → Prop) : (∃ i,i < (truthsR h []).length ∧ P ((truthsR h [])[i]!)) ↔ ∃ x ∈ L,P (truOf h [] x) := by
 constructor
 ·rintro ⟨i,hi,hp⟩
  obtain ⟨x,hx,e⟩ := g.a _ (at_mem hi)
  rw [e] at hp; exact ⟨x,hx,hp⟩
 ·rintro ⟨x,hx,hp⟩
  obtain ⟨i,hi,e⟩ := List.getElem_of_mem (g.b x hx)
  exact ⟨i,hi,by rw [getD_any hi,e]; exact hp⟩
theorem sunk_same {h : RHarb} {L : List (List Fate)} (g : Same h L) : listTo (setOf (allS h L) h.ships.length) h.ships.length = sureTo h (truthsR h []) h.ships.length ∧ listTo (setOf (someS h L) h.ships.length) h.ships.length = mayTo h (truthsR h []) h.ships.length := by
 have hlen : ∀ x ∈ L,(truOf h [] x).fleet.length = h.ships.length := fun x hx => (g.fok x hx).n
 constructor
 ·unfold listTo sureTo
  congr 1
  refine List.filter_congr fun s hs => ?_
  have hs' := List.mem_range.1 hs
  rw [setOf_bit,decide_eq_true hs',Bool.true_and,Bool.eq_iff_iff,decide_eq_true_eq,(sinkN_is h _ s _).1,same_all g (fun t => (s : Int) ∈ lostL h t.fleet t.fleet.length)]
  unfold allS
  rw [List.all_eq_true]
  constructor
  ·intro q x hx; rw [mem_lostL,hlen x hx]; exact ⟨hs',q x hx⟩
  ·intro q x hx; exact (mem_lostL.1 (q x hx)).2
 ·unfold listTo mayTo
  congr 1
  refine List.filter_congr fun s hs => ?_
  have hs' := List.mem_range.1 hs
  rw [setOf_bit,decide_eq_true hs',Bool.true_and,Bool.eq_iff_iff,decide_eq_true_eq,(sinkN_is h _ s _).2,same_ex g (fun t => (s : Int) ∈ lostL h t.fleet t.fleet.length)]
  unfold someS
  rw [List.any_eq_true]
  constructor
  ·rintro ⟨x,hx,q⟩; exact ⟨x,hx,by rw [mem_lostL,hlen x hx]; exact ⟨hs',q⟩⟩
  ·rintro ⟨x,hx,q⟩; exact ⟨x,hx,(mem_lostL.1 q).2⟩
theorem sunkR_err {h : RHarb} : (sunkR h).2.2 = enterE h 0 0 [] := by
 have : (knownR h (checkH h).2.2).2 = enterE h 0 0 [] := known_enter (fun _ => rfl) (fun q => by rw [q]; simp)
 rw [← this]
 unfold sunkR
 split
 ·rename_i q; exact q.symm
 ·rfl
theorem sunkR_bad {h : RHarb} (e : (sunkR h).2.2 ≠ 0) : sunkR h = ([],[],(sunkR h).2.2) := by
 unfold sunkR at e ⊢
 split at e
 ·exact absurd rfl e
 ·rename_i q; rw [if_neg q]
theorem sunkR_good {h : RHarb} (e : (sunkR h).2.2 = 0) : sunkR h = (sureTo h (truthsR h []) h.ships.length,mayTo h (truthsR h []) h.ships.length,0) := by
 unfold sunkR at e ⊢
 split at e
 ·rename_i q
  obtain ⟨k1,k2,k3⟩ := known_zero q
  rw [if_pos q,k2]
 ·rename_i q; exact absurd e q
theorem sunk_top (h : RHarb) (hs : hnamesFit h) : PCall Tryz.prog 21 [harbA h] (.tuple [ints (sunkR h).1,ints (sunkR h).2.1,.int .i64 (sunkR h).2.2]) := by
 intro m
 refine ACall.forget ?_
 have hen := fun m => enter_c h hs 0 0 [] (fun q => by omega) m
 have hE := sunkR_err (h := h)
 have hbad := sunkR_bad (h := h)
 have hgood := sunkR_good (h := h)
 generalize sunkR h = R at *
 simp only [harbA,harbL,ints,List.map_nil] at hen ⊢
 (refine acall_intro (E := envC (modeAt [8] [5,6,7]) false []) (envCOk _ _ _) rfl Tryz.func21 rfl Tryz.call21 (by kernel_rfl) (by simp [Tryz.ntmps21]) ?_; simp only [Tryz.f21];  simp(maxSteps:=9^9)only[↓VX,VQ,seval])
 refine ACall.told (hen _) ?_
 rintro r m1 ⟨kk,⟨hz,rfl⟩ | ⟨hz,bm,hbm,rfl,hkn⟩⟩
 ·rw [← hE] at hz
  have hb := hbad hz
  rw [← hE]
  generalize R.2.2 = e at *
  subst hb
  simp(maxSteps:=9^9)only[↓VX,VQ,seval]
  intro b5 hb5
  simp(maxSteps:=9^9)only[↓VX,VQ,seval,hz]
  exact ⟨m,fun b x hx => by rw [if_neg (ne_of_some (kk b x (fun h => h) hx) hb5),if_neg (ne_of_some (kk b x (fun h => h) hx) hb5)]; exact kk b x (fun h => h) hx,rfl⟩
 ·obtain ⟨z1,z2,z3,z4⟩ := enter_zero hz
  have hh := hok_check z1
  have h3 := hh.n
  have hR := hgood (by rw [hE]; exact hz)
  have htr := truthsF_c h 0 bm
  have hbn : ∃ y,m1 bm = some y := by obtain ⟨ls,k1,k2⟩ := hkn; exact ⟨_,k2⟩
  obtain ⟨yb,hbn⟩ := hbn
  have ht1 := fun (l : Nat) (S : Nat → Prop) (J : List (List Fate) → Mem → Prop) (F : Mem → Prop) (hy : YTok h 0 bm l S J F) (m : Mem) => truths1_c h hh 0 (by decide) bm hy m
  have hlost := fun (x : List Fate) => lost_c h hh 0 bm (fun k => x[k]!)
  have hlist := fun s (q : s < 2 ^ 62) => list_c s h.ships.length q (by omega)
  have hp : (2 : Nat) ^ h.ships.length ≤ 2 ^ 3 := Nat.pow_le_pow_right (by decide) h3
  have hp1 : (1 : Nat) ≤ 2 ^ h.ships.length := Nat.one_le_two_pow
  simp only [lookedL,fleetA,Int.natCast_zero,ints] at htr hlost hlist ⊢
  subst hR
  clear hen hbad hgood
  simp(maxSteps:=9^9)only[↓VX,VQ,seval]
  intro b5 hb5
  repeat'(first|intro _|apply And.intro)
  all_goals try omega
  rename_i b6 hb6 b7 hb7
  have n65 : b6 ≠ b5 := by rintro rfl; simp at hb6
  have hb6' : m1 b6 = none := by simpa [n65] using hb6
  have n76 : b7 ≠ b6 := by rintro rfl; simp at hb7
  have n75 : b7 ≠ b5 := by rintro rfl; simp [n76] at hb7
  have hb7' : m1 b7 = none := by simpa [n76,n75] using hb7
  have n5 := ne_of_some hbn hb5
  have n6 := ne_of_some hbn hb6'
  have n7 := ne_of_some hbn hb7'
  simp(maxSteps:=9^9)only[↓VX,VQ,seval,n65,n76,n75,n65.symm,n76.symm,n75.symm]
  repeat'(first|intro _|apply And.intro)
  refine ACall.pure htr ?_
  simp(maxSteps:=9^9)only[↓VX,VQ,seval]
  refine arange rfl (f := 90) (first := []) (caps := [.eptr [.eptr (lookedL h 0 bm)]]) (by simp(maxSteps:=9^9)only[↓VX,VQ,seval,lookedL,Int.natCast_zero]) ?_
  intro l hl
  have hl7 : l ≠ b7 := by rintro rfl; simp [upd,n76,n75] at hl
  have hl6 : l ≠ b6 := by rintro rfl; simp [upd,n65,n76.symm] at hl
  have hl5 : l ≠ b5 := by rintro rfl; simp [upd,n65.symm,n75.symm] at hl
  have hl0 : m1 l = none := by simpa [upd,hl7,hl6,hl5] using hl
  have nl := ne_of_some hbn hl0
  generalize hR : LoopA.mk _ _ _ _ _ = R
  have hyok : YTok h 0 bm l (fun k => k = l ∨ k = b5 ∨ k = b6 ∨ k = b7) (fun pre m2 => m2 l = some (.loop .ready none R) ∧ m2 b5 = some (.cells [.eptr (lookedL h 0 bm)]) ∧ m2 b6 = some (.cells [.int .i64 (setOf (allS h pre) h.ships.length : Nat)]) ∧
    m2 b7 = some (.cells [.int .i64 (setOf (someS h pre) h.ships.length : Nat)])) (fun _ => False) := by
   refine ⟨fun pre x m2 hn hx hin ok hk hJ => ?_,fun pre m2 m3 hJ hs => ?_⟩
   ·obtain ⟨j3,j5,j6,j7⟩ := hJ
    subst hR
    refine ayield (E := envC (modeAt [8] [5,6,7]) true []) (envCOk _ _ _) rfl j3 rfl (by rfl) (by rfl) (by rfl) ?_
    have hfl := fleetL_length fun i => x[i]!
    have hff := fleetL_flat fun i => x[i]!
    have hft := fleetL_take fun i => x[i]!
    have ha1 := allS_snoc h pre x h.ships.length
    have ha2 := someS_snoc h pre x h.ships.length
    have hv1 := setOf_lt (allS h pre) h.ships.length
    have hv2 := setOf_lt (someS h pre) h.ships.length
    have hv3 : lostS h (fun k => x[k]!) h.ships.length < 2 ^ h.ships.length := setOf_lt _ _
    have hl1 := hlost x
    simp only [lookedL,Int.natCast_zero] at j5
    generalize lostS h (fun k => x[k]!) h.ships.length = V at *
    generalize setOf (allS h pre) h.ships.length = A at *
    generalize setOf (someS h pre) h.ships.length = B at *
    simp(maxSteps:=9^9)only[↓VX,VQ,seval,j3,j5,keyA,fleetA,hfl,hff,hft,hl5,hl5.symm,hl6,hl6.symm,hl7,hl7.symm]
    repeat'(first|intro _|apply And.intro)
    refine ACall.pure hl1 ?_
    simp(maxSteps:=9^9)only[↓VX,VQ,seval,j3,j5,j6,j7,hfl,hff,hft,hl5,hl5.symm,hl6,hl6.symm,hl7,hl7.symm,n65,n65.symm,n75,n75.symm,n76,n76.symm]
    repeat'(first|intro _|apply And.intro)
    all_goals try omega
    ·exact ⟨fun k y hq hy => by simp only [not_or] at hq; simp only [upd,if_neg hq.1,if_neg hq.2.1,if_neg hq.2.2.1,if_neg hq.2.2.2]; exact hy⟩
    ·rw [ha1,ha2]
     simp only [lookedL,Int.natCast_zero]
     exact .inl ⟨trivial,trivial,trivial⟩
   ·obtain ⟨j3,j5,j6,j7⟩ := hJ
    exact ⟨by rw [hs l (.inl rfl)]; exact j3,by rw [hs b5 (.inr (.inl rfl))]; exact j5,by rw [hs b6 (.inr (.inr (.inl rfl)))]; exact j6,by rw [hs b7 (.inr (.inr (.inr rfl)))]; exact j7⟩
  have hdom : ∀ k y,m1 k = some y → k ≠ l ∧ k ≠ b5 ∧ k ≠ b6 ∧ k ≠ b7 := fun k y hy => ⟨ne_of_some hy hl0,ne_of_some hy hb5,ne_of_some hy hb6',ne_of_some hy hb7'⟩
  refine ACall.mono (ht1 l _ _ _ hyok _ ?_ ?_ ?_ ?_) ?_ <;> (try dsimp only)
  ·obtain ⟨ls,k1,k2⟩ := hkn
   exact ⟨ls,k1,by simp [upd,nl,n5,n6,n7]; exact k2⟩
  ·rintro k (rfl | rfl | rfl | rfl)
   ·simp [upd]
   ·simp [upd,hl5.symm,n65.symm,n75.symm]
   ·simp [upd,hl6.symm,n76.symm]
   ·simp [upd,hl7.symm,n76]
  ·rintro (e | e | e | e)
   ·exact nl e
   ·exact n5 e
   ·exact n6 e
   ·exact n7 e
  ·refine ⟨upd_same _ _ _,by simp [upd,hl5.symm,n65.symm,n75.symm,lookedL],?_,?_⟩
   ·rw [show allS h [] = fun _ => true from rfl,setOf_true]
    rw [show ((2 ^ h.ships.length - 1 : Nat) : Int) = ((2 ^ h.ships.length : Nat) : Int) - 1 by omega]
    simp only [upd,hl6.symm,n76.symm,n65.symm,↓reduceIte]
   ·rw [show someS h [] = fun _ => false from rfl,setOf_false]
    simp [upd,hl7.symm,n76]
  ·rintro r m' ⟨k1,k2,k3⟩
   have kk2 : ∀ k y,m k = some y → m' k = some y ∧ k ≠ l := by
    intro k y hy
    have hy1 := kk k y (fun h => h) hy
    obtain ⟨a1,a2,a3,a4⟩ := hdom k y hy1
    have a5 : k ≠ bm := ne_of_some hy hbm
    exact ⟨k1 k y (by rintro ((e | e | e | e) | e); exact a1 e; exact a2 e; exact a3 e; exact a4 e; exact a5 e) (by simp [upd,a1,a2,a3,a4]; exact hy1),a1⟩
   clear ht1 hyok
   rcases k3 with ⟨L,⟨j3,j5,j6,j7⟩,g⟩ | hF
   ·obtain ⟨s1,s2⟩ := sunk_same (given_same hh g)
    have hv1 := setOf_lt (allS h L) h.ships.length
    have hv2 := setOf_lt (someS h L) h.ships.length
    have hl1 := hlist (setOf (allS h L) h.ships.length) (by omega)
    have hl2 := hlist (setOf (someS h L) h.ships.length) (by omega)
    rw [s1] at hl1
    rw [s2] at hl2
    simp(maxSteps:=9^9)only[↓VX,VQ,seval,j3,j6,j7,hl6,hl6.symm,hl7,hl7.symm]
    (refine adraw (by first | exact envOk _ | exact envCOk _ _ _) mixed [⟨false,false,0⟩,⟨false,false,0⟩,⟨false,false,0⟩,⟨false,false,0⟩,⟨false,false,0⟩,⟨false,false,0⟩,⟨false,false,0⟩,⟨false,false,0⟩,⟨false,false,0⟩,⟨false,false,0⟩,⟨false,false,0⟩,⟨false,false,0⟩,⟨false,false,0⟩] (by kernel_rfl) ?_; show vcOpsD _ _ _ (_ :: _) _ _)
    simp(maxSteps:=9^9)only[↓VX,VQ,seval,j6,j7,hl6,hl6.symm,hl7,hl7.symm]
    repeat'(first|intro _|apply And.intro)
    refine VPure.of hl1 ?_
    simp(maxSteps:=9^9)only[↓VX,VQ,seval,j6,j7,hl6,hl6.symm,hl7,hl7.symm]
    repeat'(first|intro _|apply And.intro)
    refine VPure.of hl2 ?_
    simp(maxSteps:=9^9)only[↓VX,VQ,seval,j6,j7,hl6,hl6.symm,hl7,hl7.symm]
    refine ⟨m,fun k y hy => ?_,rfl⟩
    obtain ⟨e1,e2⟩ := kk2 k y hy
    simp only [if_neg e2]
    exact e1
   ·exact hF.elim
theorem nL_flat (f : Nat → Int) (n : Nat) : (nL f n).all flat = true := by
 unfold nL
 rw [List.all_map,List.all_eq_true]
 intro x _; rfl
def goS (h : RHarb) (k : Nat) (L : List (List Fate)) (s : Nat) : Bool := L.any fun x => loadB h (fun i => x[i]!) k 0 h.reports.length s
theorem goS_snoc (h : RHarb) (k : Nat) (L : List (List Fate)) (x : List Fate) (n : Nat) : setOf (goS h k (L ++ [x])) n = setOf (goS h k L) n ||| setOf (loadB h (fun i => x[i]!) k 0 h.reports.length) n := by
 rw [setOf_or]
 refine setOf_ext fun i _ => ?_
 simp [goS]
theorem load_at {h : RHarb} {x : List Fate} {k : Nat} (hk : k < h.letters.length) : loadK h 0 x h.reports.length k = ((setOf (loadB h (fun i => x[i]!) k 0 h.reports.length) h.ships.length : Nat) : Int) := by
 unfold loadK loadS
 rw [if_pos hk]
theorem true_by {h : RHarb} (hh : HOk h) {x : List Fate} (hx : FOk h x) {k : Nat} (hk : k < h.letters.length) : (truOf h [] x).by_[k]! = listTo (loadS h (fun i => x[i]!) 0 h.reports.length k) h.ships.length := by
 rw [load_list hh hx 0 k,listTo_zero]
 exact byTo_at h x [] hk
theorem metB_is (l : List RTru) (k s n : Nat) : metB l k s n = true ↔ ∃ i,i < n ∧ (s : Int) ∈ (l[i]!).by_[k]! := by
 unfold metB
 rw [List.any_eq_true]
 constructor
 ·rintro ⟨i,hi,hp⟩; exact ⟨i,List.mem_range.1 hi,by simpa using hp⟩
 ·rintro ⟨i,hi,hp⟩; exact ⟨i,List.mem_range.2 hi,by simpa using hp⟩
theorem by_same {h : RHarb} (hh : HOk h) {L : List (List Fate)} (g : Same h L) {k : Nat} (hk : k < h.letters.length) : listTo (setOf (goS h k L) h.ships.length) h.ships.length = metL (truthsR h []) k h.ships.length := by
 unfold listTo metL
 congr 1
 refine List.filter_congr fun s hs => ?_
 have hs' := List.mem_range.1 hs
 rw [setOf_bit,decide_eq_true hs',Bool.true_and,Bool.eq_iff_iff,metB_is,same_ex g (fun t => (s : Int) ∈ t.by_[k]!)]
 unfold goS
 rw [List.any_eq_true]
 constructor
 ·rintro ⟨x,hx,q⟩
  refine ⟨x,hx,?_⟩
  rw [true_by hh (g.fok x hx) hk,mem_listTo hs']
  unfold loadS
  rw [setOf_bit,q,decide_eq_true hs']; rfl
 ·rintro ⟨x,hx,q⟩
  refine ⟨x,hx,?_⟩
  rw [true_by hh (g.fok x hx) hk,mem_listTo hs'] at q
  unfold loadS at q
  rw [setOf_bit,decide_eq_true hs',Bool.true_and] at q
  exact q
theorem byR_err {h : RHarb} {letter : Int} : (byR h letter).2 = enterE h h.letters.length 0 [letter] := by
 have : (knownR h (indexE (checkH h).2.2 letter h.letters.length)).2 = enterE h h.letters.length 0 [letter] := known_enter (fun q => indexE_bad q) (fun q => by rw [q,indexE_good]; simp)
 rw [← this]
 unfold byR
 split
 ·rename_i q; exact q.symm
 ·rfl
theorem byR_bad {h : RHarb} {letter : Int} (e : (byR h letter).2 ≠ 0) : byR h letter = ([],(byR h letter).2) := by
 unfold byR at e ⊢
 split at e
 ·exact absurd rfl e
 ·rename_i q; rw [if_neg q]
theorem byR_good {h : RHarb} {letter : Int} (e : (byR h letter).2 = 0) : byR h letter = (metL (truthsR h []) letter.toNat h.ships.length,0) := by
 unfold byR at e ⊢
 split at e
 ·rename_i q
  obtain ⟨k1,k2,k3⟩ := known_zero q
  rw [if_pos q,k2]
 ·rename_i q; exact absurd e q
theorem by_top (h : RHarb) (hs : hnamesFit h) (letter : Int) : PCall Tryz.prog 23 [harbA h,.int .i64 letter] (.tuple [ints (byR h letter).1,.int .i64 (byR h letter).2]) := by
 intro m
 refine ACall.forget ?_
 have hen := fun m => enter_c h hs h.letters.length 0 [letter] (fun q => by have := (hok_check q).nl; omega) m
 have hE := byR_err (h := h) (letter := letter)
 have hbad := byR_bad (h := h) (letter := letter)
 have hgood := byR_good (h := h) (letter := letter)
 generalize byR h letter = R at *
 simp only [harbA,harbL,ints,List.map_nil,List.map_cons] at hen ⊢
 (refine acall_intro (E := envC (modeAt [10] [8]) false []) (envCOk _ _ _) rfl Tryz.func23 rfl Tryz.call23 (by kernel_rfl) (by simp [Tryz.ntmps23]) ?_; simp only [Tryz.f23];  simp(maxSteps:=9^9)only[↓VX,VQ,seval])
 repeat'(first|intro _|apply And.intro)
 refine ACall.told (hen _) ?_
 rintro r m1 ⟨kk,⟨hz,rfl⟩ | ⟨hz,bm,hbm,rfl,hkn⟩⟩
 ·rw [← hE] at hz
  have hb := hbad hz
  rw [← hE]
  generalize R.2 = e at *
  subst hb
  simp(maxSteps:=9^9)only[↓VX,VQ,seval,hz]
  exact ⟨m,fun b x hx => kk b x (fun h => h) hx,rfl⟩
 ·obtain ⟨z1,z2,z3,z4⟩ := enter_zero hz
  have hle := z2 letter (by simp)
  have hh := hok_check z1
  have h3 := hh.n
  have h4 := hh.nl
  have hR := hgood (by rw [hE]; exact hz)
  have hkl : letter.toNat < h.letters.length := by omega
  have hlk : letter = ((letter.toNat : Nat) : Int) := by omega
  generalize letter.toNat = k at *
  subst hlk
  have htr := truthsF_c h 0 bm
  have hbn : ∃ y,m1 bm = some y := by obtain ⟨ls,k1,k2⟩ := hkn; exact ⟨_,k2⟩
  obtain ⟨yb,hbn⟩ := hbn
  have ht1 := fun (l : Nat) (S : Nat → Prop) (J : List (List Fate) → Mem → Prop) (F : Mem → Prop) (hy : YTok h 0 bm l S J F) (m : Mem) => truths1_c h hh 0 (by decide) bm hy m
  have hlist := fun s (q : s < 2 ^ 62) => list_c s h.ships.length q (by omega)
  have hp : (2 : Nat) ^ h.ships.length ≤ 2 ^ 3 := Nat.pow_le_pow_right (by decide) h3
  simp only [lookedL,Int.natCast_zero,ints] at htr hlist ⊢
  subst hR
  clear hen hbad hgood
  simp(maxSteps:=9^9)only[↓VX,VQ,seval]
  intro b8 hb8
  have n8 := ne_of_some hbn hb8
  (refine ACall.pure (htr) ?_; try simp(maxSteps:=9^9)only[↓VX,VQ,seval])
  refine arange rfl (f := 90) (first := []) (caps := [.eptr [.eptr (lookedL h 0 bm)]]) (by simp(maxSteps:=9^9)only[↓VX,VQ,seval,lookedL,Int.natCast_zero]) ?_
  intro l hl
  have hl8 : l ≠ b8 := by rintro rfl; simp [upd] at hl
  have hl0 : m1 l = none := by simpa [upd,hl8] using hl
  have nl := ne_of_some hbn hl0
  generalize hR : LoopA.mk _ _ _ _ _ = R
  have hyok : YTok h 0 bm l (fun k => k = l ∨ k = b8) (fun pre m2 => m2 l = some (.loop .ready none R) ∧ m2 b8 = some (.cells [.int .i64 (setOf (goS h k pre) h.ships.length : Nat)])) (fun _ => False) := by
   refine ⟨fun pre x m2 hn hx hin ok hk hJ => ?_,fun pre m2 m3 hJ hs => ?_⟩
   ·obtain ⟨j3,j8⟩ := hJ
    subst hR
    refine ayield (E := envC (modeAt [10] [8]) true []) (envCOk _ _ _) rfl j3 rfl (by rfl) (by rfl) (by rfl) ?_
    have hfl := nL_length (loadK h 0 x h.reports.length) 4
    have hff := nL_flat (loadK h 0 x h.reports.length) 4
    have hdr := nL_drop (f := loadK h 0 x h.reports.length) (show k < 4 by omega)
    have hat := load_at (h := h) (x := x) hkl
    have ha1 := goS_snoc h k pre x h.ships.length
    have hv1 := setOf_lt (goS h k pre) h.ships.length
    have hv2 := setOf_lt (loadB h (fun i => x[i]!) k 0 h.reports.length) h.ships.length
    generalize setOf (goS h k pre) h.ships.length = A at *
    generalize setOf (loadB h (fun i => x[i]!) k 0 h.reports.length) h.ships.length = B at *
    rw [hat] at hdr
    have hd4 : List.drop 4 [AV.int .i64 0,AV.int .i64 0,AV.int .i64 0,AV.int .i64 0] = [] := rfl
    simp(maxSteps:=9^9)only[↓VX,VQ,seval,j3,loadsV,hfl,hff,hd4]
    repeat'(first|intro _|apply And.intro)
    (refine adraw (by first | exact envOk _ | exact envCOk _ _ _) mixed [⟨false,false,0⟩,⟨false,false,0⟩,⟨false,false,0⟩,⟨false,false,0⟩,⟨false,false,0⟩,⟨false,false,0⟩] (by kernel_rfl) ?_; show vcOpsD _ _ _ (_ :: _) _ _)
    simp(maxSteps:=9^9)only[↓VX,VQ,seval,j8,hl8,hl8.symm,hdr,hfl,hd4]
    repeat'(first|intro _|apply And.intro)
    all_goals try omega
    ·exact ⟨fun k y hq hy => by simp only [not_or] at hq; simp only [upd,if_neg hq.1,if_neg hq.2]; exact hy⟩
    ·rw [ha1]; exact .inl rfl
   ·obtain ⟨j3,j8⟩ := hJ
    exact ⟨by rw [hs l (.inl rfl)]; exact j3,by rw [hs b8 (.inr rfl)]; exact j8⟩
  have hdom : ∀ k y,m1 k = some y → k ≠ l ∧ k ≠ b8 := fun k y hy => ⟨ne_of_some hy hl0,ne_of_some hy hb8⟩
  refine ACall.mono (ht1 l _ _ _ hyok _ ?_ ?_ ?_ ?_) ?_ <;> (try dsimp only)
  ·obtain ⟨ls,k1,k2⟩ := hkn
   exact ⟨ls,k1,by simp [upd,nl,n8]; exact k2⟩
  ·rintro k (rfl | rfl)
   ·simp [upd]
   ·simp [upd,hl8.symm]
  ·rintro (e | e)
   ·exact nl e
   ·exact n8 e
  ·refine ⟨upd_same _ _ _,?_⟩
   rw [show goS h k [] = fun _ => false from rfl,setOf_false]
   simp [upd,hl8.symm]
  ·rintro r m' ⟨k1,k2,k3⟩
   have kk2 : ∀ k y,m k = some y → m' k = some y ∧ k ≠ l := by
    intro k y hy
    have hy1 := kk k y (fun h => h) hy
    obtain ⟨a1,a2⟩ := hdom k y hy1
    have a5 : k ≠ bm := ne_of_some hy hbm
    exact ⟨k1 k y (by rintro ((e | e) | e); exact a1 e; exact a2 e; exact a5 e) (by simp [upd,a1,a2]; exact hy1),a1⟩
   clear ht1 hyok
   rcases k3 with ⟨L,⟨j3,j8⟩,g⟩ | hF
   ·have s1 := by_same hh (given_same hh g) hkl
    have hv1 := setOf_lt (goS h k L) h.ships.length
    have hl1 := hlist (setOf (goS h k L) h.ships.length) (by omega)
    rw [s1] at hl1
    simp(maxSteps:=9^9)only[↓VX,VQ,seval,j3,j8,hl8,hl8.symm]
    repeat'(first|intro _|apply And.intro)
    refine ACall.pure hl1 ?_
    simp(maxSteps:=9^9)only[↓VX,VQ,seval]
    refine ⟨m,fun k y hy => ?_,rfl⟩
    obtain ⟨e1,e2⟩ := kk2 k y hy
    simp only [if_neg e2]
    exact e1
   ·exact hF.elim
def cnt {α : Type} (p : α → Bool) (D : List α) : Int := ((D.filter p).length : Nat)
theorem cnt_le {α : Type} (p : α → Bool) (D : List α) : 0 ≤ cnt p D ∧ cnt p D ≤ (D.length : Int) := by
 have := List.length_filter_le p D
 unfold cnt; omega
theorem cnt_snoc {α : Type} (p : α → Bool) (D : List α) (x : α) : cnt p (D ++ [x]) = if p x = true then cnt p D + 1 else cnt p D := by
 unfold cnt
 rw [List.filter_append,List.length_append]
 by_cases q : p x = true
 ·rw [if_pos q]; simp [q]
 ·rw [if_neg q]; simp [q]
theorem cnt_app {α : Type} (p : α → Bool) (D E : List α) : cnt p (D ++ E) = cnt p D + cnt p E := by
 unfold cnt; rw [List.filter_append,List.length_append]; omega
theorem cnt_all {α : Type} {p : α → Bool} {D : List α} : cnt p D = (D.length : Int) ↔ ∀ x ∈ D,p x = true := by
 unfold cnt
 rw [← List.length_filter_eq_length_iff]
 omega
theorem cnt_none {α : Type} {p : α → Bool} {D : List α} : cnt p D = 0 ↔ ∀ x ∈ D,p x = false := by
 unfold cnt
 constructor
 ·intro e x hx
  have h0 : (D.filter p).length = 0 := by omega
  rw [List.length_eq_zero_iff,List.filter_eq_nil_iff] at h0
  simpa using h0 x hx
 ·intro e
  have : D.filter p = [] := by rw [List.filter_eq_nil_iff]; intro x hx; rw [e x hx]; simp
  rw [this]; rfl
theorem settled_lists {α β : Type} {p : α → Bool} {q : β → Bool} {D : List α} {E : List β} (h1 : (∀ x ∈ D,p x = true) ↔ ∀ x ∈ E,q x = true) (h2 : (∀ x ∈ D,p x = false) ↔ ∀ x ∈ E,q x = false) : settledR (cnt p D) D.length = settledR (cnt q E) E.length :=
 settled_same (cnt_all.trans (h1.trans cnt_all.symm)) (cnt_none.trans (h2.trans cnt_none.symm))
theorem same_mem {h : RHarb} {L : List (List Fate)} (g : Same h L) (P : RTru → Prop) : (∀ t ∈ truthsR h [],P t) ↔ ∀ x ∈ L,P (truOf h [] x) := by
 constructor
 ·intro q x hx; exact q _ (g.b x hx)
 ·intro q t ht
  obtain ⟨x,hx,rfl⟩ := g.a t ht
  exact q x hx
def goL (h : RHarb) (k : Nat) (x : List Fate) : List Int := listTo (loadS h (fun i => x[i]!) 0 h.reports.length k) h.ships.length
theorem goL_mem {h : RHarb} {k : Nat} {x : List Fate} {s : Int} (hs : s ∈ goL h k x) : 0 ≤ s ∧ s.toNat < h.ships.length := by
 unfold goL listTo at hs
 simp only [List.mem_map,List.mem_filter,List.mem_range] at hs
 obtain ⟨i,⟨hi,_⟩,rfl⟩ := hs
 omega
theorem goL_length (h : RHarb) (k : Nat) (x : List Fate) : (goL h k x).length ≤ h.ships.length := by unfold goL; exact listTo_length _ _
def dayC (h : RHarb) (k : Nat) (x : List Fate) (s : Int) : Int := dA h s.toNat (h.letters[k]!).port x
def rowC (h : RHarb) (k : Nat) (x : List Fate) : List Int := (goL h k x).map (dayC h k x)
def daysC (h : RHarb) (k : Nat) (L : List (List Fate)) : List Int := L.flatMap (rowC h k)
theorem daysC_snoc (h : RHarb) (k : Nat) (L : List (List Fate)) (x : List Fate) : daysC h k (L ++ [x]) = daysC h k L ++ rowC h k x := by simp [daysC]
theorem daysC_length {h : RHarb} (h3 : h.ships.length ≤ 3) (k : Nat) (L : List (List Fate)) : (daysC h k L).length ≤ L.length * 3 := by
 unfold daysC
 refine flatMap_le (Nat.le_refl _) fun x _ => ?_
 unfold rowC
 rw [List.length_map]
 exact Nat.le_trans (goL_length h k x) h3
def rowE (h : RHarb) (k : Nat) (t : RTru) : List Int := (t.by_[k]!).map fun s => dayR h t.fleet s.toNat (h.letters[k]!).port
theorem comeIn_is (h : RHarb) (t : RTru) (k : Nat) (day : Int) : ∀ n,n ≤ (t.by_[k]!).length → comeIn h t k day n = cnt (fun d => untilB d day) ((rowE h k t).take n)
 | 0,_ => by simp [comeIn,cnt]
 | n + 1,hn => by
  have ih := comeIn_is h t k day n (by omega)
  have hlt : n < (rowE h k t).length := by unfold rowE; rw [List.length_map]; omega
  have e : (rowE h k t)[n] = dayR h t.fleet ((t.by_[k]!)[n]!).toNat (h.letters[k]!).port := by
   rw [getD_any (show n < (t.by_[k]!).length by omega)]
   simp only [rowE,List.getElem_map]
  rw [List.take_succ_eq_append_getElem hlt,cnt_snoc,e,← ih]
  show comeIn h t k day n + (if untilB (dayR h t.fleet ((t.by_[k]!)[n]!).toNat (h.letters[k]!).port) day = true then 1 else 0) = if untilB (dayR h t.fleet ((t.by_[k]!)[n]!).toNat (h.letters[k]!).port) day = true then comeIn h t k day n + 1 else comeIn h t k day n
  split <;> omega
theorem comeTo_is (h : RHarb) (l : List RTru) (k : Nat) (day : Int) : ∀ n,n ≤ l.length → comeTo h l k day n = cnt (fun d => untilB d day) ((l.take n).flatMap (rowE h k)) ∧ allTo l k n = (((l.take n).flatMap (rowE h k)).length : Int)
 | 0,_ => by simp [comeTo,allTo,cnt]
 | n + 1,hn => by
  obtain ⟨i1,i2⟩ := comeTo_is h l k day n (by omega)
  have hr : (rowE h k l[n]).length = (l[n].by_[k]!).length := by unfold rowE; rw [List.length_map]
  rw [List.take_succ_eq_append_getElem (by omega),List.flatMap_append,List.flatMap_singleton,cnt_app,List.length_append,← i1]
  have c1 : comeTo h l k day (n + 1) = comeTo h l k day n + comeIn h (l[n]!) k day ((l[n]!).by_[k]!).length := rfl
  have c2 : allTo l k (n + 1) = allTo l k n + (((l[n]!).by_[k]!).length : Int) := rfl
  rw [c1,c2,getD_any (by omega),i2,comeIn_is h _ k day _ (Nat.le_refl _),← hr,List.take_length]
  exact ⟨rfl,by omega⟩
theorem come_same {h : RHarb} (hh : HOk h) {L : List (List Fate)} (g : Same h L) {k : Nat} (hk : k < h.letters.length) {day : Int} (hd : day ≤ 60) :
  settledR (cnt (fun d => decide (d ≤ day)) (daysC h k L)) (daysC h k L).length = settledR (comeTo h (truthsR h []) k day (truthsR h []).length) (allTo (truthsR h []) k (truthsR h []).length) := by
 obtain ⟨e1,e2⟩ := comeTo_is h (truthsR h []) k day _ (Nat.le_refl _)
 rw [e1,e2,List.take_length]
 have key : ∀ c : Bool,(∀ d ∈ daysC h k L,decide (d ≤ day) = c) ↔ ∀ d ∈ (truthsR h []).flatMap (rowE h k),untilB d day = c := fun c => by
  have h1 : (∀ d ∈ (truthsR h []).flatMap (rowE h k),untilB d day = c) ↔ ∀ t ∈ truthsR h [],∀ d ∈ rowE h k t,untilB d day = c := by
   simp only [List.mem_flatMap]
   exact ⟨fun q t ht d hd => q d ⟨t,ht,hd⟩,fun q d ⟨t,ht,hd⟩ => q t ht d hd⟩
  have h2 : (∀ d ∈ daysC h k L,decide (d ≤ day) = c) ↔ ∀ x ∈ L,∀ d ∈ rowC h k x,decide (d ≤ day) = c := by
   unfold daysC
   simp only [List.mem_flatMap]
   exact ⟨fun q t ht d hd => q d ⟨t,ht,hd⟩,fun q d ⟨t,ht,hd⟩ => q t ht d hd⟩
  rw [h1,h2,same_mem g (fun t => ∀ d ∈ rowE h k t,untilB d day = c)]
  have h3 : ∀ x ∈ L,(∀ d ∈ rowC h k x,decide (d ≤ day) = c) ↔ ∀ d ∈ rowE h k (truOf h [] x),untilB d day = c := fun x hx => by
   unfold rowC rowE
   rw [true_by hh (g.fok x hx) hk]
   simp only [List.forall_mem_map]
   have : ∀ s ∈ goL h k x,decide (dayC h k x s ≤ day) = untilB (dayR h (truOf h [] x).fleet s.toNat (h.letters[k]!).port) day := fun s hs => by
    have hs' := (goL_mem hs).2
    have := dayN_R hh (g.fok x hx) hs' (h.letters[k]!).port
    have := dayR_le hh (g.fok x hx) hs' (h.letters[k]!).port
    unfold dayC dA untilB
    rw [show (truOf h [] x).fleet = x from rfl,dayN_R hh (g.fok x hx) hs' (h.letters[k]!).port]
    rw [Bool.eq_iff_iff]
    simp only [Bool.and_eq_true,decide_eq_true_eq]
    split <;> omega
   exact ⟨fun q s hs => by rw [← this s hs]; exact q s hs,fun q s hs => by rw [this s hs]; exact q s hs⟩
  exact ⟨fun q x hx => (h3 x hx).1 (q x hx),fun q x hx => (h3 x hx).2 (q x hx)⟩
 exact settled_lists (key true) (key false)
def comeE (h : RHarb) (letter day : Int) : Int := dayE day (indexE (checkH h).2.2 letter h.letters.length)
theorem dayE_bad {d e : Int} (he : e ≠ 0) : dayE d e = e := by unfold dayE; rw [if_neg he]
theorem comeE_known {h : RHarb} {letter day : Int} : (knownR h (comeE h letter day)).2 = enterE h h.letters.length (datedE day) [letter] := by
 refine known_enter (fun q => ?_) (fun q => ?_)
 ·unfold comeE; rw [indexE_bad q,dayE_bad q]
 ·unfold comeE
  rw [q,indexE_good]
  simp only [List.any_cons,List.any_nil,Bool.or_false]
  by_cases q1 : offP 0 ((h.letters.length : Int) - 1) letter = true
  ·simp only [if_pos q1]; exact dayE_bad (by decide)
  ·simp only [if_neg q1]; unfold dayE datedE; rw [if_pos rfl]
theorem comeR_is (h : RHarb) (letter day : Int) : comeR h letter day = if (knownR h (comeE h letter day)).2 = 0 then (settledR (comeTo h (knownR h (comeE h letter day)).1 letter.toNat day (knownR h (comeE h letter day)).1.length) (allTo (knownR h (comeE h letter day)).1 letter.toNat (knownR h (comeE h letter day)).1.length),0) else (0,(knownR h (comeE h letter day)).2) := rfl
theorem comeR_err {h : RHarb} {letter day : Int} : (comeR h letter day).2 = enterE h h.letters.length (datedE day) [letter] := by
 rw [← comeE_known,comeR_is]
 split
 ·rename_i q; exact q.symm
 ·rfl
theorem comeR_bad {h : RHarb} {letter day : Int} (e : (comeR h letter day).2 ≠ 0) : comeR h letter day = (0,(comeR h letter day).2) := by
 rw [comeR_is] at e ⊢
 split at e
 ·exact absurd rfl e
 ·rename_i q; rw [if_neg q]
theorem comeR_good {h : RHarb} {letter day : Int} (e : (comeR h letter day).2 = 0) : comeR h letter day = (settledR (comeTo h (truthsR h []) letter.toNat day (truthsR h []).length) (allTo (truthsR h []) letter.toNat (truthsR h []).length),0) := by
 rw [comeR_is] at e ⊢
 split at e
 ·rename_i q
  obtain ⟨k1,k2,k3⟩ := known_zero q
  rw [if_pos q,k2]
 ·rename_i q; exact absurd e q
end Go.Proofs.YteppmjlfpniiaaaGreat.Abs
