/- Lemmas for the statements of this seat (X40): they hold without conditions beyond those that each one states. -/
import Derived.Test.YtdmejgfcaacdoaaGreatX39
import Derived.Test.YtdmejgfcaacdoaaGreatX14
/- Contracts: the order of lists; which sound string comes first. -/
namespace Go.Proofs.YtdmejgfcaacdoaaGreat.Abs
set_option linter.unusedSimpArgs false
set_option maxHeartbeats 4000000
set_option maxRecDepth 100000
open Go Go.RowKit Go.Proofs
def lexC : List Int → List Int → Int
 | [],[] => 0
 | [],_ :: _ => -1
 | _ :: _,[] => 1
 | x :: l,y :: l' => if x < y then -1 else if y < x then 1 else lexC l l'
theorem isnan_c (a : Int) : PCall Tryz.prog 182 [.int .i64 a] (.bool false) := by
 intro m
 (refine acall_intro (E := env fun _ => .imm) (envOk _) rfl Tryz.func182 rfl Tryz.call182 (by kernel_rfl) (by simp [Tryz.ntmps182]) ?_; simp only [Tryz.f182];  simp(maxSteps:=9^9)only[↓VX,VQ,seval])
 try simp
theorem cmp_c (a b : Int) : PCall Tryz.prog 168 [.int .i64 a,.int .i64 b] (.int .i64 (if a < b then -1 else if b < a then 1 else 0)) := by
 intro m
 have h1 := isnan_c a
 have h2 := isnan_c b
 (refine acall_intro (E := env fun _ => .imm) (envOk _) rfl Tryz.func168 rfl Tryz.call168 (by kernel_rfl) (by simp [Tryz.ntmps168]) ?_; simp only [Tryz.f168];  simp(maxSteps:=9^9)only[↓VX,VQ,seval])
 ((refine ACall.pure (h1) ?_; try simp(maxSteps:=9^9)only[↓VX,VQ,seval]); try simp(maxSteps:=9^9)only[↓VX,VQ,seval,GL])
 ((refine ACall.pure (h2) ?_; try simp(maxSteps:=9^9)only[↓VX,VQ,seval]); try simp(maxSteps:=9^9)only[↓VX,VQ,seval,GL])
 repeat'(first|intro _|apply And.intro)
 ·rw [if_pos (by assumption)]
 ·rw [if_neg (by assumption),if_pos (by assumption)]
 ·rw [if_neg (by assumption),if_neg (by assumption)]
theorem ixZ (l : List Int) (i : Int) (K : AV → Prop) : VIdx (l.map (AV.int .i64)) i K ↔ (0 ≤ i ∧ i.toNat < l.length) ∧ K (.int .i64 l[i.toNat]!) := VIdx_map (AV.int .i64) l i K
theorem icompare_c (a b : List Int) : PCall Tryz.prog 132 [ints a,ints b] (.int .i64 (lexC a b)) := by
 intro m
 have hc := cmp_c
 simp only [ints]
 (refine acall_len Tryz.call132 fun hlen => ?_; refine acall_intro (E := env fun _ => .imm) (envOk _) rfl Tryz.func132 rfl Tryz.call132 (by kernel_rfl) (by simp [Tryz.ntmps132]) ?_; simp only [Tryz.f132];  simp(maxSteps:=9^9)only[↓VX,VQ,seval])
 simp only [lenOk_cons,lenOk_nil,List.length_map,and_true,maxLen_eq] at hlen
 obtain ⟨hla,hlb⟩ := hlen
 repeat'(first|intro _|apply And.intro)
 refine aloop (envOk _) (fun k : Nat => ⟨[(0,.v (.slice 1 (a.map (AV.int .i64)))),(1,.v (.slice 1 (b.map (AV.int .i64)))),(9,.v (.slice 1 (a.map (AV.int .i64)))),(10,.v (.int .i64 a.length)),(11,.v (.int .i64 k))],[],[],m⟩)
  (fun k => (k ≤ a.length ∧ k ≤ b.length) ∧ lexC (a.drop k) (b.drop k) = lexC a b) (fun k => a.length - k) 0 (fun _ => rfl) (by simp) (by (simp only [FE,↓FP,seval]); try simp) ?_
 rintro k ⟨⟨hk1,hk2⟩,hk⟩
 simp(maxSteps:=9^9)only[↓VX,VQ,seval,↓ixZ]
 repeat'(first|intro _|apply And.intro)
 all_goals try omega
 ·have h1 : k < a.length := by omega
  rw [List.drop_eq_getElem_cons h1,List.drop_eq_nil_of_le (show b.length ≤ k by omega)] at hk
  rw [← hk]; rfl
 ·have h1 : k < a.length := by omega
  have h2 : k < b.length := by omega
  rw [List.drop_eq_getElem_cons h1,List.drop_eq_getElem_cons h2] at hk
  have hc' := hc a[k]! b[k]!
  rw [getD_any h1,getD_any h2] at hc' ⊢
  have hstep : lexC (a[k] :: a.drop (k + 1)) (b[k] :: b.drop (k + 1)) = if a[k] < b[k] then -1 else if b[k] < a[k] then 1 else lexC (a.drop (k + 1)) (b.drop (k + 1)) := rfl
  rw [hstep] at hk
  refine ACall.pure hc' ?_
  simp(maxSteps:=9^9)only[↓VX,VQ,seval]
  repeat'(first|intro _|apply And.intro)
  all_goals try omega
  ·by_cases q1 : a[k] < b[k]
   ·rw [if_pos q1] at hk ⊢; rw [← hk]
   ·rw [if_neg q1] at hk ⊢
    by_cases q2 : b[k] < a[k]
    ·rw [if_pos q2] at hk ⊢; rw [← hk]
    ·rename_i hne
     rw [if_neg q1,if_neg q2] at hne
     exact absurd rfl hne
  ·rename_i hne
   have q1 : ¬ a[k] < b[k] := fun q => hne (by rw [if_pos q]; decide)
   have q2 : ¬ b[k] < a[k] := fun q => hne (by rw [if_neg q1,if_pos q]; decide)
   rw [if_neg q1,if_neg q2] at hk
   refine ⟨k + 1,⟨⟨by omega,by omega⟩,hk⟩,by dsimp only; omega,?_⟩
   (simp only [FE,↓FP,seval])
   simp
 ·have e : k = a.length := by omega
  have h2 : k < b.length := by omega
  rw [List.drop_eq_nil_of_le (show a.length ≤ k by omega),List.drop_eq_getElem_cons h2] at hk
  rw [← hk]; rfl
 ·rw [List.drop_eq_nil_of_le (show a.length ≤ k by omega),List.drop_eq_nil_of_le (show b.length ≤ k by omega)] at hk
  rw [← hk]; rfl
theorem lexC_same : ∀ z : List Int,lexC z z = 0
 | [] => rfl
 | x :: l => by
  rw [lexC,if_neg (by omega),if_neg (by omega),lexC_same l]
theorem lexC_lexN (z : List Int) : ∀ {s t : List Nat},s.length = t.length → (decide (lexC (intsN s ++ z) (intsN t ++ z) < 0)) = lexN s t
 | [],[],_ => by
  show decide (lexC z z < 0) = false
  rw [lexC_same]; rfl
 | [],_ :: _,h => by simp at h
 | _ :: _,[],h => by simp at h
 | a :: s,b :: t,h => by
  have ih := lexC_lexN z (s := s) (t := t) (by simpa using h)
  show decide ((if (a : Int) < b then (-1 : Int) else if (b : Int) < a then 1 else lexC (intsN s ++ z) (intsN t ++ z)) < 0) = if a = b then lexN s t else decide (a < b)
  by_cases q1 : a < b
  ·rw [if_pos (by omega),if_neg (by omega),decide_eq_true q1]; rfl
  ·rw [if_neg (by omega)]
   by_cases q2 : b < a
   ·rw [if_pos (by omega),if_neg (by omega),decide_eq_false q1]; rfl
   ·rw [if_neg (by omega),if_pos (by omega),ih]
def padI (h : List Nat) : List Int := [snd h 0,snd h 1,snd h 2,snd h 3,snd h 4]
theorem padI_eq {h : List Nat} (hh : h.length ≤ 5) : padI h = intsN h ++ List.replicate (5 - h.length) 0 := by
 match h,hh with
 | [],_ => rfl
 | [_],_ => rfl
 | [_,_],_ => rfl
 | [_,_,_],_ => rfl
 | [_,_,_,_],_ => rfl
 | [_,_,_,_,_],_ => rfl
 | _ :: _ :: _ :: _ :: _ :: _ :: _,h => exact absurd h (by simp)
theorem lexC_pad {h x : List Nat} (hh : h.length ≤ 5) (hx : x.length ≤ 5) (e : h.length = x.length) : decide (lexC (padI h) (padI x) < 0) = lexN h x := by
 rw [padI_eq hh,padI_eq hx,e]
 exact lexC_lexN _ e
theorem lexN_same : ∀ h : List Nat,lexN h h = false
 | [] => rfl
 | a :: l => by rw [lexN,if_pos rfl,lexN_same l]
theorem pad_same {x y : List Nat} (hx : x.length ≤ 5) (hy : y.length ≤ 5) (e : x.length = y.length) :
  (decide (snd x 0 = snd y 0) && (decide (snd x 1 = snd y 1) && (decide (snd x 2 = snd y 2) && (decide (snd x 3 = snd y 3) && (decide (snd x 4 = snd y 4) && true))))) = decide (x = y) := by
 have := heard_same hx hy
 rw [decide_eq_true (by omega),Bool.true_and,Bool.and_true] at this
 exact this
theorem before_c (h x : List Nat) (hh : h.length ≤ 5) (hx : x.length ≤ 5) : PCall Tryz.prog 167 [heardA h,heardA x] (.bool (beforeH h x)) := by
 intro m
 have heq := eqFlatFive (snd h 0) (snd h 1) (snd h 2) (snd h 3) (snd h 4) (snd x 0) (snd x 1) (snd x 2) (snd x 3) (snd x 4)
 have hcm := icompare_c (padI h) (padI x)
 have hlx := lexC_pad hh hx
 obtain ⟨P,hP⟩ : ∃ P,P = (decide (snd h 0 = snd x 0) && (decide (snd h 1 = snd x 1) && (decide (snd h 2 = snd x 2) && (decide (snd h 3 = snd x 3) && decide (snd h 4 = snd x 4))))) := ⟨_,rfl⟩
 have hps := pad_same hh hx
 simp only [Bool.and_true] at heq hps
 rw [← hP] at hps
 obtain ⟨B,hB⟩ : ∃ B,B = beforeH h x := ⟨_,rfl⟩
 rw [← hB]
 unfold beforeH at hB
 simp only [heardA,heardL,ints,padI,List.map_cons,List.map_nil] at hcm ⊢
 by_cases hl : h.length = x.length
 ·have z1 : ((h.length : Int) = (x.length : Int)) = True := eq_true (by omega)
  have z2 : ((h.length : Int) < (x.length : Int)) = False := eq_false (by omega)
  rw [if_pos hl] at hB
  have hps := hps hl
  have hlx := hlx hl
  (refine acall_intro (E := envC (modeAt [] []) false []) (envCOk _ _ _) rfl Tryz.func167 rfl Tryz.call167 (by kernel_rfl) (by simp [Tryz.ntmps167]) ?_; simp only [Tryz.f167];  simp(maxSteps:=9^9)only[↓VX,VQ,seval,z1,z2])
  refine ⟨by simpa only [Bool.and_true] using heq,?_⟩
  by_cases q : h = x
  ·rw [decide_eq_true q] at hps
   rw [← hP,hps]
   simp(maxSteps:=9^9)only[↓VX,VQ,seval,z1,z2]
   rw [hB,q,lexN_same]
   simp
  ·rw [decide_eq_false q] at hps
   rw [← hP,hps]
   simp(maxSteps:=9^9)only[↓VX,VQ,seval,z1,z2]
   have hL : ([AV.int .i64 (snd h 0),.int .i64 (snd h 1),.int .i64 (snd h 2),.int .i64 (snd h 3),.int .i64 (snd h 4)] : List AV).all flat = true := rfl
   have hL' : ([AV.int .i64 (snd x 0),.int .i64 (snd x 1),.int .i64 (snd x 2),.int .i64 (snd x 3),.int .i64 (snd x 4)] : List AV).all flat = true := rfl
   refine adrawS (envCOk _ _ _) mixed (V := vcZ _) (fun h hd _ _ _ hi hf hs _ _ _ hn => vcZ_sound (envCOk _ _ _) h hd hi hf hs hn) (by kernel_rfl)
    (fun D st => (st.vals 2 = .v (.eptr (heardL h)) ∧ st.vals 3 = .v (.eptr (heardL x)) ∧ st.mem = m) ∧ (D 0 = true → st.vals 22 = .v (.eptr [AV.int .i64 (snd h 0),.int .i64 (snd h 1),.int .i64 (snd h 2),.int .i64 (snd h 3),.int .i64 (snd h 4)])) ∧
     (D 1 = true → st.vals 23 = .v (.slice 1 [AV.int .i64 (snd h 0),.int .i64 (snd h 1),.int .i64 (snd h 2),.int .i64 (snd h 3),.int .i64 (snd h 4)])) ∧
     (D 2 = true → st.vals 24 = .v (.eptr [AV.int .i64 (snd x 0),.int .i64 (snd x 1),.int .i64 (snd x 2),.int .i64 (snd x 3),.int .i64 (snd x 4)])) ∧
     (D 3 = true → st.vals 25 = .v (.slice 1 [AV.int .i64 (snd x 0),.int .i64 (snd x 1),.int .i64 (snd x 2),.int .i64 (snd x 3),.int .i64 (snd x 4)])) ∧
     (D 4 = true → st.vals 26 = .v (.int .i64 (lexC (padI h) (padI x)))) ∧ (D 5 = true → st.vals 27 = .v (.bool B)) ∧ (D 6 = true → st.vals 4 = .v (.bool B)))
    ⟨[(4,.v (.bool B))],[],[],m⟩ rfl ?_ ?_ ?_ ?_
   ·refine ⟨⟨rfl,rfl,rfl⟩,?_⟩
    simp
   ·intro D k o st hop hD hw ⟨⟨a1,a2,am⟩,v0,v1,v2,v3,v4,v5,v6⟩
    have hk7 : k < 7 := (Array.getElem?_eq_some_iff.1 hop).1
    have hkc : k = 0 ∨ k = 1 ∨ k = 2 ∨ k = 3 ∨ k = 4 ∨ k = 5 ∨ k = 6 := by omega
    simp only [heardL] at a1 a2
    rcases hkc with rfl | rfl | rfl | rfl | rfl | rfl | rfl
    all_goals obtain rfl := Option.some.inj hop
    all_goals simp [waitsOk,Region.binds] at hw
    all_goals unfold vcZ
    ·rw [if_neg (by decide)]
     simp(maxSteps:=9^9)only[↓VX,VQ,seval,a1,a2]
     repeat' (first | assumption | exact rfl | exact fun _ => rfl | exact fun _ => trivial | apply And.intro)
    ·rw [if_pos (by decide)]
     simp(maxSteps:=9^9)only[↓VX,VQ,seval,a1,a2,v0 hw,vcSliceE,hL]
     repeat' (first | assumption | exact rfl | exact fun _ => trivial | exact (by decide) | apply And.intro)
    ·rw [if_neg (by decide)]
     simp(maxSteps:=9^9)only[↓VX,VQ,seval,a1,a2]
     repeat' (first | assumption | exact rfl | exact fun _ => rfl | exact fun _ => trivial | apply And.intro)
    ·rw [if_pos (by decide)]
     simp(maxSteps:=9^9)only[↓VX,VQ,seval,a1,a2,v2 hw,vcSliceE,hL']
     repeat' (first | assumption | exact rfl | exact fun _ => trivial | exact (by decide) | apply And.intro)
    ·rw [if_neg (by decide)]
     simp(maxSteps:=9^9)only[↓VX,VQ,seval,a1,a2,v1 hw.1,v3 hw.2]
     refine ACall.pure hcm ?_
     have hfz : st.freezes (List.map (St.sv (envC (modeAt [] []) false []).T 0 st) [.tmp 23,.tmp 25]) = st := by
      show st.freezes [st.vals 23,st.vals 25] = st
      rw [v1 hw.1,v3 hw.2]; rfl
     rw [hfz]
     simp(maxSteps:=9^9)only[↓VX,VQ,seval]
     repeat' (first | assumption | exact rfl | exact fun _ => rfl | exact fun _ => trivial | apply And.intro)
    ·rw [if_neg (by decide)]
     simp(maxSteps:=9^9)only[↓VX,VQ,seval,a1,a2,v4 hw]
     repeat' (first | assumption | exact rfl | exact fun _ => trivial | apply And.intro | (rw [hB,← hlx]))
    ·rw [if_neg (by decide)]
     simp(maxSteps:=9^9)only[↓VX,VQ,seval,a1,a2,v5 hw.1]
     repeat' (first | assumption | exact rfl | exact fun _ => rfl | exact fun _ => trivial | apply And.intro)
   ·intro D st hD hI
    have hI4 := hI.2.2.2.2.2.2.2 (hD 6 (by decide))
    have hIm := hI.1.2.2
    (simp only [FE,↓FP,seval])
    exact ⟨hI4,hIm⟩
   ·simp(maxSteps:=9^9)only[↓VX,VQ,seval]
 ·have z1 : ((h.length : Int) = (x.length : Int)) = False := eq_false (by omega)
  rw [if_neg hl] at hB
  (refine acall_intro (E := envC (modeAt [] []) false []) (envCOk _ _ _) rfl Tryz.func167 rfl Tryz.call167 (by kernel_rfl) (by simp [Tryz.ntmps167]) ?_; simp only [Tryz.f167];  simp(maxSteps:=9^9)only[↓VX,VQ,seval,z1])
  refine ⟨by simpa only [Bool.and_true] using heq,?_⟩
  rw [hB]
  congr 1
  simp
theorem enter_zero {b : REar} {many : Nat} {l : List Int} (h : enterE1 b many l = 0) : (checkE b).2.2 = 0 ∧ ∀ n ∈ l,0 ≤ n ∧ n ≤ (many : Int) - 1 := by
 unfold enterE1 at h
 split at h
 ·rename_i h1; exact absurd h h1
 ·rename_i h1
  split at h
  ·cases h
  ·rename_i h2
   refine ⟨Decidable.of_not_not h1,fun n hn => ?_⟩
   rw [Bool.not_eq_true,List.any_eq_false] at h2
   have := h2 n hn
   rw [Bool.not_eq_true,offP_false] at this
   exact this
theorem hear_zero {b : REar} {l : List Int} (h : hearE b l = 0) : l.length ≤ 5 ∧ ∀ n ∈ l,0 ≤ n ∧ n ≤ b.sounds - 1 := by
 unfold hearE at h
 split at h
 ·cases h
 ·rename_i h1
  split at h
  ·cases h
  ·rename_i h2
   refine ⟨by omega,fun n hn => ?_⟩
   rw [Bool.not_eq_true,List.any_eq_false] at h2
   have := h2 n hn
   rw [Bool.not_eq_true,offP_false] at this
   exact this
theorem spellT_from (l : List RLetr) (h : List Nat) {k : Nat} (hk : k < 5) : ([1,2,3,4,5].drop k).findSome? (fun m => spellD l m h) = match spellD l (k + 1) h with | some t => some t | none => ([1,2,3,4,5].drop (k + 1)).findSome? (fun m => spellD l m h) := by
 have hc : k = 0 ∨ k = 1 ∨ k = 2 ∨ k = 3 ∨ k = 4 := by omega
 rcases hc with rfl | rfl | rfl | rfl | rfl <;> (simp only [List.drop,List.findSome?_cons]; first | rfl | (cases spellD l _ h <;> rfl))
theorem keep_sub {bm : Nat} {m m' : Mem} (h : m bm = none) (hk : KeepS (fun k => k = bm) m m') : ∀ b x,m b = some x → m' b = some x := fun b x hb => hk.get b x (fun e => by rw [e,h] at hb; cases hb) hb
theorem spell_c (b : REar) (hf : earFit b) (al : Int) (l : List Int) : PCall Tryz.prog 18 [earA b,.int .i64 al,ints l] (.tuple [.str (spellR b al l).1,.int .i64 (spellR b al l).2]) := by
 intro m
 refine ACall.forget ?_
 have hen := fun h => earenter_c b hf b.alphabets.length h [al] m
 have hhe := fun (hb : EOk b) bm => hear_c b hb bm l
 obtain ⟨R,hR⟩ : ∃ R,R = spellR b al l := ⟨_,rfl⟩
 rw [← hR]
 unfold spellR at hR
 obtain ⟨e,he⟩ : ∃ e,e = enterE1 b b.alphabets.length [al] := ⟨_,rfl⟩
 have hez := enter_zero (b := b) (many := b.alphabets.length) (l := [al])
 have hel := fun h => (checkE_parts (b := b) h).2.1
 rw [← he] at hen hR hez
 obtain ⟨e2,he2⟩ : ∃ e,e = hearE b l := ⟨_,rfl⟩
 have hhz := hear_zero (b := b) (l := l)
 rw [← he2] at hhe hR hhz
 simp only [earA,earL,bookL,ints,heardA,heardL,List.map_cons,List.map_nil] at hen hhe ⊢
 (refine acall_intro (E := envC (modeAt [10,11] [12]) false []) (envCOk _ _ _) rfl Tryz.func18 rfl Tryz.call18 (by kernel_rfl) (by simp [Tryz.ntmps18]) ?_; simp only [Tryz.f18];  simp(maxSteps:=9^9)only[↓VX,VQ,seval,])
 intro hlen
 refine ACall.told (hen hlen) ?_
 rintro r m' (⟨h0,rfl,rfl⟩ | ⟨h0,hek,bm,hbm,rfl,hmb,hkeep⟩)
 ·have h1 : (e = 0) = False := eq_false h0
  rw [if_pos h0] at hR
  simp(maxSteps:=9^9)only[↓VX,VQ,seval,h1]
  subst hR
  exact ⟨_,fun _ _ q => q,rfl,rfl⟩
 have h1 : (e = 0) = True := eq_true h0
 have hsub := keep_sub hbm hkeep
 rw [if_neg (fun q => q h0)] at hR
 obtain ⟨hc0,hal⟩ := hez h0
 have hal := hal al (List.mem_singleton.2 rfl)
 have hhe := hhe hek bm
 simp(maxSteps:=9^9)only[↓VX,VQ,seval,h1]
 (refine ACall.pure (hhe) ?_; try simp(maxSteps:=9^9)only[↓VX,VQ,seval])
 refine Or.elim (Decidable.em (e2 = 0)) (fun g0 => ?_) (fun g0 => ?_)
 rotate_left
 ·have g1 : (e2 = 0) = False := eq_false g0
  rw [if_pos g0] at hR
  simp(maxSteps:=9^9)only[↓VX,VQ,seval,g1]
  subst hR
  exact ⟨m,hsub,rfl,rfl⟩
 have g1 : (e2 = 0) = True := eq_true g0
 rw [if_neg (fun q => q g0)] at hR
 obtain ⟨hl5,hlr⟩ := hhz g0
 simp(maxSteps:=9^9)only[↓VX,VQ,seval,g1]
 refine ⟨⟨by omega,by omega⟩,?_⟩
 intro bx hbx
 obtain ⟨L,hL⟩ : ∃ L,L = (b.alphabets[al.toNat]!).letters := ⟨_,rfl⟩
 obtain ⟨H,hH⟩ : ∃ H,H = natsI l := ⟨_,rfl⟩
 rw [← hL,← hH] at hR
 obtain ⟨M,hM⟩ : ∃ M : Mem,M = upd (upd m' bx (some (.cells [.nilfunc]))) bx (some (.cells [writeA L H bx])) := ⟨_,rfl⟩
 have hMb : M bx = some (.cells [writeA L H bx]) := by rw [hM,upd_same]
 have hMs : ∀ k x,m k = some x → M k = some x := fun k x hk => by
  have h1 := hsub k x hk
  have h2 : k ≠ bx := fun e => by rw [e,hbx] at h1; cases h1
  rw [hM,upd_ne _ _ h2,upd_ne _ _ h2]; exact h1
 have hmemA : b.alphabets[al.toNat]! ∈ b.alphabets := by rw [getD_any (by omega)]; exact List.getElem_mem _
 obtain ⟨l1,l2,l3⟩ := hek.l _ hmemA
 rw [← hL] at l1 l2
 have hk4 := hek.k
 have hH5 : H.length ≤ 5 := by rw [hH]; simpa [natsI] using hl5
 have hHk : ∀ n ∈ H,n < 4 := fun n hn => by
  rw [hH] at hn
  obtain ⟨z,hz,rfl⟩ := List.mem_map.1 hn
  have := hlr z hz
  omega
 have hw := fun (k : Nat) hk => earwrite_c L l1 l2 H hH5 hHk bx k hk 0 (Nat.zero_le _) M hMb
 simp only [List.drop_zero] at hw
 rw [← hL,← hH] at *
 refine aloop (envCOk _ _ _) (fun k : Nat => ⟨[(12,.v (.ptr bx 0)),(13,.v (.int .i64 (k + 1 : Nat)))],[],[],M⟩)
  (fun k => k ≤ 5 ∧ spellT L H = ([1,2,3,4,5].drop k).findSome? fun n => spellD L n H) (fun k => 5 - k) 0 (fun _ => rfl) ⟨Nat.zero_le _,rfl⟩ (by (simp only [FE,↓FP,seval]); exact hM.symm) ?_
 rintro k ⟨hk5,hkf⟩
 simp only [writeA,letrsA,heardL,Int.natCast_zero] at hw hMb
 by_cases hk : k < 5
 ·have z1 : (((k + 1 : Nat) : Int) ≤ 5) = True := eq_true (by omega)
  have hw1 := hw (k + 1) (by omega)
  rw [spellT_from L H hk] at hkf
  obtain ⟨T,hT⟩ : ∃ T,T = spellD L (k + 1) H := ⟨_,rfl⟩
  rw [← hT] at hkf hw1
  cases T with
  | none =>
   have hkf : spellT L H = ([1,2,3,4,5].drop (k + 1)).findSome? fun n => spellD L n H := hkf
   simp(maxSteps:=9^9)only[↓VX,VQ,seval,z1,hMb]
   refine ACall.told hw1 ?_
   rintro r M' ⟨rfl,rfl⟩
   simp(maxSteps:=9^9)only[↓VX,VQ,seval,Option.isSome_none]
   refine ⟨⟨by omega,by omega⟩,k + 1,⟨by omega,hkf⟩,by dsimp only; omega,?_⟩
   (simp only [FE,↓FP,seval])
   try simp
  | some t =>
   have hkf : spellT L H = some t := hkf
   rw [hkf] at hR
   simp(maxSteps:=9^9)only[↓VX,VQ,seval,z1,hMb]
   refine ACall.told hw1 ?_
   rintro r M' ⟨rfl,rfl⟩
   simp(maxSteps:=9^9)only[↓VX,VQ,seval,Option.isSome_some]
   exact ⟨m,hMs,by rw [hR]; rfl,rfl⟩
 ·have z1 : (((k + 1 : Nat) : Int) ≤ 5) = False := eq_false (by omega)
  obtain rfl : k = 5 := by omega
  have hkf : spellT L H = none := hkf
  rw [hkf] at hR
  simp(maxSteps:=9^9)only[↓VX,VQ,seval,z1]
  exact ⟨m,hMs,by rw [hR]; rfl,rfl⟩
theorem reads_c (b : REar) (hf : earFit b) (s : Int) (l : List Int) : PCall Tryz.prog 28 [earA b,.int .i64 s,ints l] (.tuple [.bool (readsR b s l).1,.int .i64 (readsR b s l).2]) := by
 intro m
 refine ACall.forget ?_
 have hen := fun h => earenter_c b hf b.spellings.length h [s] m
 have hhe := fun (hb : EOk b) bm => hear_c b hb bm l
 obtain ⟨R,hR⟩ : ∃ R,R = readsR b s l := ⟨_,rfl⟩
 rw [← hR]
 unfold readsR at hR
 obtain ⟨e,he⟩ : ∃ e,e = enterE1 b b.spellings.length [s] := ⟨_,rfl⟩
 have hez := enter_zero (b := b) (many := b.spellings.length) (l := [s])
 rw [← he] at hen hR hez
 obtain ⟨e2,he2⟩ : ∃ e,e = hearE b l := ⟨_,rfl⟩
 have hhz := hear_zero (b := b) (l := l)
 rw [← he2] at hhe hR hhz
 simp only [earA,earL,bookL,ints,heardA,heardL,List.map_cons,List.map_nil] at hen hhe ⊢
 (refine acall_intro (E := envC (modeAt [10] []) false []) (envCOk _ _ _) rfl Tryz.func28 rfl Tryz.call28 (by kernel_rfl) (by simp [Tryz.ntmps28]) ?_; simp only [Tryz.f28];  simp(maxSteps:=9^9)only[↓VX,VQ,seval,])
 intro hlen
 refine ACall.told (hen hlen) ?_
 rintro r m' (⟨h0,rfl,rfl⟩ | ⟨h0,hek,bm,hbm,rfl,hmb,hkeep⟩)
 ·have h1 : (e = 0) = False := eq_false h0
  rw [if_pos h0] at hR
  simp(maxSteps:=9^9)only[↓VX,VQ,seval,h1]
  subst hR
  exact ⟨_,fun _ _ q => q,rfl,rfl⟩
 have h1 : (e = 0) = True := eq_true h0
 have hsub := keep_sub hbm hkeep
 rw [if_neg (fun q => q h0)] at hR
 obtain ⟨hc0,hal⟩ := hez h0
 have hal := hal s (List.mem_singleton.2 rfl)
 have hhe := hhe hek bm
 simp(maxSteps:=9^9)only[↓VX,VQ,seval,h1]
 (refine ACall.pure (hhe) ?_; try simp(maxSteps:=9^9)only[↓VX,VQ,seval])
 refine Or.elim (Decidable.em (e2 = 0)) (fun g0 => ?_) (fun g0 => ?_)
 rotate_left
 ·have g1 : (e2 = 0) = False := eq_false g0
  rw [if_pos g0] at hR
  simp(maxSteps:=9^9)only[↓VX,VQ,seval,g1]
  subst hR
  exact ⟨m,hsub,rfl,rfl⟩
 have g1 : (e2 = 0) = True := eq_true g0
 rw [if_neg (fun q => q g0)] at hR
 obtain ⟨hl5,hlr⟩ := hhz g0
 obtain ⟨H,hH⟩ : ∃ H,H = natsI l := ⟨_,rfl⟩
 rw [← hH] at hR
 have hH5 : H.length ≤ 5 := by rw [hH]; simpa [natsI] using hl5
 have hb5 := hek.s
 obtain ⟨k,rfl⟩ : ∃ k : Nat,s = (k : Int) := ⟨s.toNat,by omega⟩
 have hk5 : k < b.spellings.length := by omega
 obtain ⟨p,hp⟩ : ∃ p,p = lookTo b b.spellings.length := ⟨_,rfl⟩
 have hpo := bok_look hek (Nat.le_refl b.spellings.length)
 have hpb := look_bit b H k b.spellings.length
 rw [← hp] at hmb hpo hpb
 rw [decide_eq_true hk5,Bool.true_and] at hpb
 obtain ⟨V,hV⟩ : ∃ V,V = p.2 H := ⟨_,rfl⟩
 have hV32 : V < 32 := by rw [hV]; exact hpo.b H
 have hka : KeyAt Tryz.prog 154 (heardA H) (kvB p) (atH p.1 H) := heard_at (valB p) hH5 hpo.l
 rw [← hV] at hpb
 have hRk : R = (V.testBit k,0) := by rw [hR,hpb,Int.toNat_natCast]
 simp(maxSteps:=9^9)only[↓VX,VQ,seval,g1]
 rw [← hH]
 refine adrawS (envCOk _ _ _) mixed (V := vcV _) (fun h hd _ _ _ hi hf hs _ _ _ hn => vcV_sound (envCOk _ _ _) h hd hi hf hs hn) (by kernel_rfl)
  (fun D st => (st.vals 8 = .v (.eptr [.int .i64 b.sounds,.slice 2 (b.alphabets.map alphA),.slice 2 (b.spellings.map spelA),.map bm]) ∧ st.vals 10 = .loc 10 0 ∧ st.loc 10 = some (heardL H) ∧ st.vals 1 = .v (.int .i64 k) ∧ st.mem = m') ∧
   (D 0 = true → st.vals 33 = .v (.eptr [.int .i64 b.sounds,.slice 2 (b.alphabets.map alphA),.slice 2 (b.spellings.map spelA),.map bm])) ∧ (D 1 = true → st.vals 34 = .v (.eptr [.int .i64 b.sounds,.slice 2 (b.alphabets.map alphA),.slice 2 (b.spellings.map spelA),.map bm])) ∧
   (D 2 = true → st.vals 35 = .v (.eptr [.map bm])) ∧ (D 3 = true → st.vals 36 = .v (.map bm)) ∧ (D 4 = true → st.vals 37 = .v (heardA H)) ∧ (D 5 = true → st.vals 38 = .v (.int .i64 (V : Nat))) ∧ (D 6 = true → st.vals 39 = .v (.int .i64 k)) ∧
   (D 7 = true → st.vals 40 = .v (.int .i64 ((V / 2 ^ k : Nat) : Int))) ∧ (D 8 = true → st.vals 41 = .v (.int .i64 ((V / 2 ^ k &&& 1 : Nat) : Int))) ∧ (D 9 = true → st.vals 42 = .v (.bool (V.testBit k))) ∧
   (D 10 = true → st.vals 6 = .v (.bool (V.testBit k))) ∧ (D 11 = true → st.vals 7 = .v (.int .i64 0)))
  ⟨[(6,.v (.bool (V.testBit k))),(7,.v (.int .i64 0))],[],[],m'⟩ rfl ?_ ?_ ?_ ?_
 ·refine ⟨⟨rfl,rfl,rfl,rfl,rfl⟩,?_⟩
  simp
 ·intro D j o st hop hD hw ⟨⟨a1,a2,a3,a4,a5⟩,v0,v1,v2,v3,v4,v5,v6,v7,v8,v9,v10,v11⟩
  have hk12 : j < 12 := (Array.getElem?_eq_some_iff.1 hop).1
  have hkc : j = 0 ∨ j = 1 ∨ j = 2 ∨ j = 3 ∨ j = 4 ∨ j = 5 ∨ j = 6 ∨ j = 7 ∨ j = 8 ∨ j = 9 ∨ j = 10 ∨ j = 11 := by omega
  rcases hkc with rfl | rfl | rfl | rfl | rfl | rfl | rfl | rfl | rfl | rfl | rfl | rfl
  all_goals obtain rfl := Option.some.inj hop
  all_goals simp [waitsOk,Region.binds] at hw
  all_goals unfold vcV
  ·rw [if_neg (by decide)]
   simp(maxSteps:=9^9)only[↓VX,VQ,seval,a1,a2,a3,a4]
   repeat' (first | assumption | exact rfl | exact fun _ => rfl | exact fun _ => trivial | apply And.intro)
  ·rw [if_neg (by decide)]
   simp(maxSteps:=9^9)only[↓VX,VQ,seval,a1,a2,a3,a4,v0 hw]
   repeat' (first | assumption | exact rfl | exact fun _ => rfl | exact fun _ => trivial | apply And.intro)
  ·rw [if_neg (by decide)]
   simp(maxSteps:=9^9)only[↓VX,VQ,seval,a1,a2,a3,a4,v1 hw]
   repeat' (first | assumption | exact rfl | exact fun _ => rfl | exact fun _ => trivial | apply And.intro)
  ·rw [if_neg (by decide)]
   simp(maxSteps:=9^9)only[↓VX,VQ,seval,a1,a2,a3,a4,v2 hw]
   repeat' (first | assumption | exact rfl | exact fun _ => rfl | exact fun _ => trivial | apply And.intro)
  ·rw [if_neg (by decide)]
   simp(maxSteps:=9^9)only[↓VX,VQ,seval,a1,a2,a3,a4,heardA,heardL]
   repeat' (first | assumption | exact rfl | exact fun _ => rfl | exact fun _ => trivial | apply And.intro)
  ·rw [if_pos (by decide)]
   simp(maxSteps:=9^9)only[↓VX,VQ,seval,vcX,evX,a1,a2,a3,a4,a5,v3 hw.1,v4 hw.2,hmb,boxB]
   cases hx : atH p.1 H with
   | some j =>
    refine ⟨some j,by rw [← hx]; exact hka,(heardA H,valB p H),kv_some hx,?_⟩
    repeat' (first | assumption | exact rfl | exact fun _ => rfl | exact fun _ => trivial | apply And.intro | (rw [hV]; rfl) | (intro _; rw [hV]; rfl))
   | none =>
    have hz : V = 0 := by rw [hV]; exact hpo.z H (at_none hx)
    refine ⟨none,by rw [← hx]; exact hka,?_⟩
    dsimp only
    repeat' (first | assumption | exact rfl | exact fun _ => rfl | exact fun _ => trivial | apply And.intro | (rw [hz]; rfl) | (intro _; rw [hz]; rfl))
  ·rw [if_neg (by decide)]
   simp(maxSteps:=9^9)only[↓VX,VQ,seval,a1,a2,a3,a4]
   repeat' (first | assumption | exact rfl | exact fun _ => rfl | exact fun _ => trivial | apply And.intro)
  ·rw [if_neg (by decide)]
   simp(maxSteps:=9^9)only[↓VX,VQ,seval,a1,a2,a3,a4,v5 hw.1,v6 hw.2]
   refine ⟨⟨by omega,by omega,by omega⟩,?_⟩
   repeat' (first | assumption | exact rfl | exact fun _ => rfl | exact fun _ => trivial | apply And.intro)
  ·rw [if_neg (by decide)]
   simp(maxSteps:=9^9)only[↓VX,VQ,seval,a1,a2,a3,a4,v7 hw]
   refine ⟨⟨Int.natCast_nonneg _,Int.le_trans (Int.ofNat_le.2 (Nat.le_trans (Nat.div_le_self _ _) (Nat.le_of_lt hV32))) (by decide)⟩,?_⟩
   repeat' (first | assumption | exact rfl | exact fun _ => rfl | exact fun _ => trivial | apply And.intro)
  ·rw [if_neg (by decide)]
   simp(maxSteps:=9^9)only[↓VX,VQ,seval,a1,a2,a3,a4,v8 hw]
   repeat' (first | assumption | exact rfl | exact fun _ => rfl | exact fun _ => trivial | apply And.intro)
   rw [Bool.decide_eq_true]
  ·rw [if_neg (by decide)]
   simp(maxSteps:=9^9)only[↓VX,VQ,seval,a1,a2,a3,a4,v9 hw.1]
   repeat' (first | assumption | exact rfl | exact fun _ => rfl | exact fun _ => trivial | apply And.intro)
  ·rw [if_neg (by decide)]
   simp(maxSteps:=9^9)only[↓VX,VQ,seval,a1,a2,a3,a4]
   repeat' (first | assumption | exact rfl | exact fun _ => rfl | exact fun _ => trivial | apply And.intro)
 ·intro D st hD hI
  have h6 := hI.2.2.2.2.2.2.2.2.2.2.2.1 (hD 10 (by decide))
  have h7 := hI.2.2.2.2.2.2.2.2.2.2.2.2 (hD 11 (by decide))
  have hm := hI.1.2.2.2.2
  (simp only [FE,↓FP,seval])
  exact ⟨⟨h6,h7⟩,hm⟩
 ·simp(maxSteps:=9^9)only[↓VX,VQ,seval]
  exact ⟨m,hsub,by rw [hRk],rfl⟩
end Go.Proofs.YtdmejgfcaacdoaaGreat.Abs
