/- Lemmas for the statements of this seat (X37): they hold without conditions beyond those that each one states. -/
import Derived.Test.YtdmejgfcaacdoaaGreatX36
import Derived.Test.YtdmejgfcaacdoaaGreatX8
import Derived.Test.YtdmejgfcaacdoaaGreatX9
/- Laws: which spellings can be each sound string. -/
namespace Go.Proofs.YtdmejgfcaacdoaaGreat.Abs
set_option linter.unusedSimpArgs false
open Go Go.RowKit Go.Proofs
abbrev KB := List (List Nat) × (List Nat → Nat)
def addB (i : Nat) (p : KB) (h : List Nat) : KB := (addH p.1 h,fun x => if x = h then p.2 x ||| 2 ^ i else p.2 x)
def lookTo (b : REar) : Nat → KB
 | 0 => ([],fun _ => 0)
 | n + 1 => (strsOf b n).foldl (addB n) (lookTo b n)
def valB (p : KB) (h : List Nat) : AV := .int .i64 (p.2 h)
def kvB (p : KB) : List (AV × AV) := p.1.map fun h => (heardA h,valB p h)
def boxB (p : KB) : Box := .mapS (kvB p) (List.range p.1.length) p.1.length
structure BOk (p : KB) : Prop where
 n : p.1.Nodup
 l : ∀ y ∈ p.1,y.length ≤ 5
 z : ∀ x,x ∉ p.1 → p.2 x = 0
 b : ∀ x,p.2 x < 32
theorem bok_nil : BOk ([],fun _ => 0) := ⟨List.nodup_nil,by simp,fun _ _ => rfl,fun _ => (by decide : 0 < 32)⟩
theorem addH_mem {l : List (List Nat)} {h x : List Nat} : x ∈ addH l h ↔ x ∈ l ∨ x = h := by
 unfold addH
 split
 ·rename_i q
  rw [List.any_eq_true] at q
  obtain ⟨y,hy,e⟩ := q
  have e := of_decide_eq_true e
  subst e
  constructor
  ·exact .inl
  ·rintro (q | rfl)
   ·exact q
   ·exact hy
 ·simp
theorem bok_add {p : KB} (hp : BOk p) {i : Nat} (hi : i < 5) {h : List Nat} (hh : h.length ≤ 5) : BOk (addB i p h) := by
 refine ⟨?_,?_,?_,?_⟩
 ·unfold addB addH
  dsimp only
  split
  ·exact hp.n
  ·rename_i q
   rw [Bool.not_eq_true,List.any_eq_false] at q
   rw [List.nodup_append]
   refine ⟨hp.n,by simp,fun a ha c hc e => ?_⟩
   rw [List.mem_singleton] at hc
   subst hc e
   simpa using q a ha
 ·intro y hy
  rcases addH_mem.1 hy with q | rfl
  ·exact hp.l y q
  ·exact hh
 ·intro x hx
  have h1 : x ∉ p.1 := fun q => hx (addH_mem.2 (.inl q))
  have h2 : x ≠ h := fun q => hx (addH_mem.2 (.inr q))
  show (if x = h then _ else p.2 x) = 0
  rw [if_neg h2,hp.z x h1]
 ·intro x
  show (if x = h then p.2 x ||| 2 ^ i else p.2 x) < 32
  have h1 := hp.b x
  split
  ·exact Nat.or_lt_two_pow (n := 5) h1 (Nat.pow_lt_pow_right (by decide) hi)
  ·exact h1
theorem bok_fold {i : Nat} (hi : i < 5) : ∀ {l : List (List Nat)} {p : KB},BOk p → (∀ y ∈ l,y.length ≤ 5) → BOk (l.foldl (addB i) p)
 | [],_,hp,_ => hp
 | h :: l,_,hp,hl => bok_fold hi (l := l) (bok_add hp hi (hl h List.mem_cons_self)) fun y hy => hl y (List.mem_cons_of_mem _ hy)
theorem strings_len {l : List RLetr} {k : Nat} : ∀ {t : List Nat} {h : List Nat},h ∈ stringsL l k t → h.length ≤ t.length
 | [],h,hm => by
  simp [stringsL] at hm
  rw [hm]; exact Nat.le_refl _
 | c :: t,h,hm => by
  rw [stringsL] at hm
  split at hm
  ·cases hm
  ·rename_i x _
   rcases List.mem_append.1 hm with q | q
   ·split at q
    ·have := strings_len q
     rw [List.length_cons]; omega
    ·cases q
   ·obtain ⟨n,_,q⟩ := List.mem_flatMap.1 q
    split at q
    ·obtain ⟨y,hy,rfl⟩ := List.mem_map.1 q
     have := strings_len hy
     simp only [List.length_cons]; omega
    ·cases q
theorem strs_len {b : REar} (hb : EOk b) {i : Nat} (hi : i < b.spellings.length) : ∀ y ∈ strsOf b i,y.length ≤ 5 := by
 intro y hy
 have h1 := strings_len hy
 have h2 : (bytesOf (b.spellings[i]!).text).length = (b.spellings[i]!).text.size := by simp [bytesOf]
 have h3 := (hb.t i hi).2.1.2
 omega
theorem bok_look {b : REar} (hb : EOk b) : ∀ {n : Nat},n ≤ b.spellings.length → BOk (lookTo b n)
 | 0,_ => bok_nil
 | n + 1,h => by
  have := hb.s
  exact bok_fold (by omega) (bok_look hb (by omega)) (strs_len hb (by omega))
theorem fold_bit (i : Nat) (x : List Nat) (j : Nat) : ∀ (l : List (List Nat)) (p : KB),((l.foldl (addB i) p).2 x).testBit j = ((p.2 x).testBit j || (decide (j = i) && l.any fun y => decide (y = x)))
 | [],p => by simp
 | h :: l,p => by
  rw [List.foldl_cons,fold_bit i x j l]
  show (((if x = h then p.2 x ||| 2 ^ i else p.2 x)).testBit j || _) = _
  by_cases q : x = h
  ·subst q
   rw [if_pos rfl,Nat.testBit_or,Nat.testBit_two_pow]
   by_cases e : i = j
   ·subst e; simp
   ·have e' : ¬ j = i := fun q => e q.symm
    simp [e,e']
  ·have q' : ¬ h = x := fun e => q e.symm
   rw [if_neg q]
   simp [q']
theorem look_bit (b : REar) (x : List Nat) (j : Nat) : ∀ n,((lookTo b n).2 x).testBit j = (decide (j < n) && ofH b x j)
 | 0 => by simp [lookTo]
 | n + 1 => by
  rw [lookTo,fold_bit,look_bit b x j n]
  unfold ofH
  by_cases e : j = n
  ·subst e; simp
  ·by_cases q : j < n
   ·have : j < n + 1 := by omega
    simp [e,q,this]
   ·have : ¬ j < n + 1 := by omega
    simp [e,q,this]
/-! ### The map's entries -/
theorem at_some {ks : List (List Nat)} {h : List Nat} {j : Nat} (e : atH ks h = some j) : ks[j]? = some h ∧ h ∈ ks := by
 unfold atH at e
 rw [List.findIdx?_eq_some_iff_getElem] at e
 obtain ⟨hj,e,_⟩ := e
 have e := of_decide_eq_true e
 exact ⟨by rw [List.getElem?_eq_getElem hj,e],by rw [← e]; exact List.getElem_mem hj⟩
theorem at_none {ks : List (List Nat)} {h : List Nat} (e : atH ks h = none) : h ∉ ks := by
 unfold atH at e
 rw [List.findIdx?_eq_none_iff] at e
 intro hm
 simpa using e h hm
theorem born_range {n j : Nat} (hj : j < n) : bornAt (List.range n) (j : Int) = some j := by
 unfold bornAt
 rw [List.findIdx?_eq_some_iff_getElem]
 refine ⟨by simpa using hj,by simp,fun k hk => ?_⟩
 simp
 omega
theorem kv_some {p : KB} {h : List Nat} {j : Nat} (e : atH p.1 h = some j) : (kvB p)[j]? = some (heardA h,valB p h) := by
 unfold kvB
 rw [List.getElem?_map,(at_some e).1]; rfl
theorem kv_set {p : KB} (hp : BOk p) {i : Nat} {h : List Nat} {j : Nat} (e : atH p.1 h = some j) : (kvB p).set j (heardA h,.int .i64 ((p.2 h ||| 2 ^ i : Nat) : Int)) = kvB (addB i p h) ∧ (addB i p h).1 = p.1 := by
 obtain ⟨e1,e2⟩ := at_some e
 have ha : (addB i p h).1 = p.1 := by
  show addH p.1 h = p.1
  unfold addH
  rw [if_pos]
  rw [List.any_eq_true]
  exact ⟨h,e2,decide_eq_true rfl⟩
 refine ⟨?_,ha⟩
 unfold kvB
 rw [ha]
 refine List.ext_getElem? fun k => ?_
 by_cases q : k = j
 ·subst q
  have hk : k < p.1.length := (List.getElem?_eq_some_iff.1 e1).1
  rw [List.getElem?_set_self (by simpa using hk),List.getElem?_map,e1]
  show some _ = some (heardA h,AV.int .i64 (((if h = h then p.2 h ||| 2 ^ i else p.2 h : Nat)) : Int))
  rw [if_pos rfl]
 ·rw [List.getElem?_set_ne (Ne.symm q),List.getElem?_map,List.getElem?_map]
  cases hx : p.1[k]? with
  | none => rfl
  | some x =>
   have hne : x ≠ h := by
    rintro rfl
    have h1 := (List.getElem?_eq_some_iff.1 hx)
    have h2 := (List.getElem?_eq_some_iff.1 e1)
    obtain ⟨g1,g2⟩ := h1
    obtain ⟨g3,g4⟩ := h2
    have hpw := List.pairwise_iff_getElem.1 hp.n
    rcases Nat.lt_trichotomy k j with c | c | c
    ·exact hpw k j g1 g3 c (g2.trans g4.symm)
    ·exact q c
    ·exact hpw j k g3 g1 c (g4.trans g2.symm)
   show some (heardA x,AV.int .i64 ((p.2 x : Nat) : Int)) = some (heardA x,AV.int .i64 (((if x = h then p.2 x ||| 2 ^ i else p.2 x : Nat)) : Int))
   rw [if_neg hne]
theorem kv_new {p : KB} (hp : BOk p) {i : Nat} {h : List Nat} (e : atH p.1 h = none) :
  (kvB p ++ [(heardA h,AV.int .i64 0)]).set p.1.length (heardA h,.int .i64 ((2 ^ i : Nat) : Int)) = kvB (addB i p h) ∧ (addB i p h).1 = p.1 ++ [h] ∧ p.2 h = 0 := by
 have e1 := at_none e
 have hz := hp.z h e1
 have ha : (addB i p h).1 = p.1 ++ [h] := by
  show addH p.1 h = p.1 ++ [h]
  unfold addH
  rw [if_neg]
  rw [Bool.not_eq_true,List.any_eq_false]
  intro y hy q
  exact e1 (by rw [← of_decide_eq_true q]; exact hy)
 refine ⟨?_,ha,hz⟩
 have hl : p.1.length = (kvB p).length := by simp [kvB]
 rw [hl,List.set_append_right _ _ (Nat.le_refl _),Nat.sub_self]
 unfold kvB
 rw [ha,List.map_append]
 congr 1
 ·refine List.map_congr_left fun x hx => ?_
  have hne : x ≠ h := by rintro rfl; exact e1 hx
  show (heardA x,AV.int .i64 ((p.2 x : Nat) : Int)) = (heardA x,AV.int .i64 (((if x = h then p.2 x ||| 2 ^ i else p.2 x : Nat)) : Int))
  rw [if_neg hne]
 ·show [(heardA h,AV.int .i64 ((2 ^ i : Nat) : Int))] = [(heardA h,AV.int .i64 (((if h = h then p.2 h ||| 2 ^ i else p.2 h : Nat)) : Int))]
  rw [if_pos rfl,hz,Nat.zero_or]
theorem kv_step {p : KB} (hp : BOk p) {i : Nat} (hi : i < 5) {h : List Nat} (hh : h.length ≤ 5) {ks1 : List (List Nat)} (hk : ks1 = addH p.1 h) {j : Nat} (e : atH ks1 h = some j) :
  boxB (addB i p h) = .mapS ((ks1.map fun x => (heardA x,valB p x)).set j (heardA h,.int .i64 ((p.2 h ||| 2 ^ i : Nat) : Int))) (List.range ks1.length) ks1.length := by
 have ha : (addB i p h).1 = ks1 := hk.symm
 have hn := (bok_add hp hi hh).n
 rw [ha] at hn
 obtain ⟨e1,e2⟩ := at_some e
 unfold boxB kvB
 rw [ha]
 congr 1
 refine List.ext_getElem? fun k => ?_
 by_cases q : k = j
 ·subst q
  have hk : k < ks1.length := (List.getElem?_eq_some_iff.1 e1).1
  rw [List.getElem?_set_self (by simpa using hk),List.getElem?_map,e1]
  show some (heardA h,AV.int .i64 (((if h = h then p.2 h ||| 2 ^ i else p.2 h : Nat)) : Int)) = some _
  rw [if_pos rfl]
 ·rw [List.getElem?_set_ne (Ne.symm q),List.getElem?_map,List.getElem?_map]
  cases hx : ks1[k]? with
  | none => rfl
  | some x =>
   have hne : x ≠ h := by
    rintro rfl
    obtain ⟨g1,g2⟩ := List.getElem?_eq_some_iff.1 hx
    obtain ⟨g3,g4⟩ := List.getElem?_eq_some_iff.1 e1
    have hpw := List.pairwise_iff_getElem.1 hn
    rcases Nat.lt_trichotomy k j with c | c | c
    ·exact hpw k j g1 g3 c (g2.trans g4.symm)
    ·exact q c
    ·exact hpw j k g3 g1 c (g4.trans g2.symm)
   show some (heardA x,AV.int .i64 (((if x = h then p.2 x ||| 2 ^ i else p.2 x : Nat)) : Int)) = some (heardA x,AV.int .i64 ((p.2 x : Nat) : Int))
   rw [if_neg hne]
theorem at_snoc {ks : List (List Nat)} {h : List Nat} (e : atH ks h = none) : atH (ks ++ [h]) h = some ks.length := by
 have e1 := at_none e
 unfold atH
 rw [List.findIdx?_eq_some_iff_getElem]
 refine ⟨by simp,by simp,fun k hk => ?_⟩
 rw [List.getElem_append_left hk]
 intro q
 exact e1 (by rw [← of_decide_eq_true q]; exact List.getElem_mem hk)
def lastOk (D : Nat → Bool) : Prop := D 11 = true → ∀ q,q < 11 → D q = true
theorem lastOk_upd {D : Nat → Bool} (h : lastOk D) {k : Nat} (hk : k < 11) : lastOk (upd D k true) := by
 intro h1 q hq
 rw [upd_ne _ _ (by omega)] at h1
 by_cases e : q = k
 ·subst e; exact upd_same _ _ _
 ·rw [upd_ne _ _ e]; exact h h1 q hq
theorem lastOk_no {D : Nat → Bool} (h : lastOk D) {k : Nat} (hk : k < 11) (hD : D k = false) : D 11 = false := by
 cases hx : D 11 with
 | false => rfl
 | true => rw [h hx k hk] at hD; cases hD
set_option maxHeartbeats 4000000
set_option maxRecDepth 100000
theorem earlook_c (b : REar) (hb : EOk b) (m : Mem) :
  ACall Tryz.prog 124 [earA b] m fun r m' => ∃ bm,m bm = none ∧ r = .eptr (bookL b bm) ∧ m' bm = some (boxB (lookTo b b.spellings.length)) ∧ KeepS (fun k => k = bm) m m' := by
 have hst := fun bm i => estrings_c b bm i
 have hs1 := fun bm i l hi S J hy m => strings1_c b hb bm i l hi (S := S) (J := J) hy m
 have h5 := hb.s
 simp only [earA,earL,bookL] at hst hs1 ⊢
 (refine acall_intro (E := envC (modeAt [3,4,5] []) false [1]) (envCOk _ _ _) rfl Tryz.func124 rfl Tryz.call124 (by kernel_rfl) (by simp [Tryz.ntmps124]) ?_; simp only [Tryz.f124];  simp(maxSteps:=9^9)only[↓VX,VQ,seval])
 refine acut_at_k 1 (envCOk _ _ _) (V := vcX _) (fun h hd _ _ _ hi hf hs _ _ _ hn => vcX_sound (envCOk _ _ _) h hd hi hf hs hn) rfl rfl (fun bm : Nat => ⟨[(1,.v (.eptr [.int .i64 b.sounds,.slice 2 (b.alphabets.map alphA),.slice 2 (b.spellings.map spelA)])),(3,.loc 3 0)],[],[(3,[.eptr [.int .i64 b.sounds,.slice 2 (b.alphabets.map alphA),.slice 2 (b.spellings.map spelA),.map bm]])],upd m bm (some (boxB (lookTo b 0)))⟩) (fun bm => m bm = none) (fun _ => rfl) ?_ ?_
 ·show vcOps _ _ (_ :: _) _ _
  simp(maxSteps:=9^9)only[↓VX,VQ,seval,List.take_succ_cons,List.take_zero,vcX,evX,buildV]
  intro bm hbm
  refine ⟨bm,hbm,?_⟩
  (simp only [FE,↓FP,seval])
  try rfl
 rintro bm hbm
 simp(maxSteps:=9^9)only[↓VX,VQ,seval]
 intro _
 refine ALoop.freeze 3 ?_
 simp(maxSteps:=9^9)only[↓VX,VQ,seval]
 refine aloop (envCOk _ _ _) (fun q : Nat × Mem => ⟨[(1,.v (.eptr [.int .i64 b.sounds,.slice 2 (b.alphabets.map alphA),.slice 2 (b.spellings.map spelA)])),(3,.v (.eptr [.eptr [.int .i64 b.sounds,.slice 2 (b.alphabets.map alphA),.slice 2 (b.spellings.map spelA),.map bm]])),(12,.v (.int .i64 b.spellings.length)),(13,.v (.int .i64 q.1))],[],[],q.2⟩)
  (fun q => q.1 ≤ b.spellings.length ∧ q.2 bm = some (boxB (lookTo b q.1)) ∧ KeepS (fun k => k = bm) m q.2) (fun q => b.spellings.length - q.1) (0,upd m bm (some (boxB (lookTo b 0)))) (fun _ => rfl) ⟨Nat.zero_le _,upd_same _ _ _,⟨fun k x hk hx => by dsimp only; rw [upd_ne _ _ hk]; exact hx⟩⟩ (by (simp only [FE,↓FP,seval]); repeat' (first | rfl | apply And.intro)) ?_
 rintro ⟨i,m0⟩ ⟨hi,hm0,hk0⟩
 dsimp only at hi hm0 hk0
 by_cases hil : i < b.spellings.length
 rotate_left
 ·have z1 : ((i : Int) < (b.spellings.length : Int)) = False := eq_false (by omega)
  obtain rfl : i = b.spellings.length := by omega
  simp(maxSteps:=9^9)only[↓VX,VQ,seval,z1]
  exact ⟨bm,hbm,rfl,hm0,hk0⟩
 have z1 : ((i : Int) < (b.spellings.length : Int)) = True := eq_true (by omega)
 simp(maxSteps:=9^9)only[↓VX,VQ,seval,z1]
 (refine ACall.pure (hst bm i) ?_; try simp(maxSteps:=9^9)only[↓VX,VQ,seval])
 refine ARange.freeze 4 ?_
 simp(maxSteps:=9^9)only[↓VX,VQ,seval]
 refine arange rfl (f := 178) (first := []) (caps := [.eptr [.eptr [.int .i64 b.sounds,.slice 2 (b.alphabets.map alphA),.slice 2 (b.spellings.map spelA),.map bm]],.eptr [.int .i64 i]]) (by simp(maxSteps:=9^9)only[↓VX,VQ,seval]) ?_
 intro l hl
 have hlb : l ≠ bm := by
  rintro rfl
  simp [hm0] at hl
 generalize hR : LoopA.mk _ _ _ _ _ = R
 have hp0 := bok_look hb hi
 have hsl := strs_len hb hil
 generalize hP : lookTo b i = P at *
 have hyok : YS l (fun k => k = l ∨ k = bm) (fun pre m1 => (∀ y ∈ pre,y.length ≤ 5) ∧ m1 l = some (.loop .ready none R) ∧ m1 bm = some (boxB (pre.foldl (addB i) P))) := by
  refine ⟨fun pre h m1 hh hJ => ?_,fun pre m1 m2 hJ hs => ?_⟩
  ·obtain ⟨j1,j2,j3⟩ := hJ
   have hbo := bok_fold (i := i) (by omega) hp0 j1
   have hfs : (pre ++ [h]).foldl (addB i) P = addB i (pre.foldl (addB i) P) h := by rw [List.foldl_append]; rfl
   rw [hfs]
   generalize pre.foldl (addB i) P = p at *
   refine ayield (E := envC (modeAt [3,4,5] []) true []) (envCOk _ _ _) rfl j2 (by rw [← hR]; rfl) (by rw [← hR]; rfl) (by rw [← hR]; rfl) (by rw [← hR]; rfl) ?_
   rw [← hR]
   simp only [heardA,heardL]
   simp(maxSteps:=9^9)only[↓VX,VQ,seval,j2]
   obtain ⟨ks1,hks⟩ : ∃ ks1,ks1 = addH p.1 h := ⟨_,rfl⟩
   obtain ⟨M0,hM0⟩ : ∃ M0 : Mem,M0 = upd m1 l (some (.loop .busy none R)) := ⟨_,rfl⟩
   rw [hR,← hM0]
   have hM0b : M0 bm = some (boxB p) := by rw [hM0,upd_ne _ _ (Ne.symm hlb)]; exact j3
   obtain ⟨j,hj⟩ : ∃ j,atH ks1 h = some j := by
    cases hx : atH ks1 h with
    | some j => exact ⟨j,rfl⟩
    | none => exact absurd (addH_mem.2 (.inr rfl)) (by rw [← hks]; exact at_none hx)
   have h2i : 2 ^ i ≤ 16 := Nat.pow_le_pow_right (n := 2) (by decide) (show i ≤ 4 by omega)
   have hok1 := bok_add hbo (i := i) (by omega) hh
   have hl1 : ∀ y ∈ ks1,y.length ≤ 5 := by rw [hks]; exact hok1.l
   have hka0 : KeyAt Tryz.prog 154 (heardA h) (kvB p) (atH p.1 h) := heard_at (valB p) hh hbo.l
   have hka1 : KeyAt Tryz.prog 154 (heardA h) (ks1.map fun x => (heardA x,valB p x)) (some j) := by
    have := heard_at (valB p) hh hl1
    rw [hj] at this
    exact this
   have hg1 : (ks1.map fun x => (heardA x,valB p x))[j]? = some (heardA h,valB p h) := by rw [List.getElem?_map,(at_some hj).1]; rfl
   have hjl : j < ks1.length := (List.getElem?_eq_some_iff.1 (at_some hj).1).1
   have hstep := kv_step hbo (i := i) (by omega) hh hks hj
   have hcase : (∃ j0,atH p.1 h = some j0 ∧ ks1 = p.1 ∧ j0 = j) ∨ (atH p.1 h = none ∧ ks1 = p.1 ++ [h] ∧ j = p.1.length ∧ p.2 h = 0) := by
    cases hx : atH p.1 h with
    | some j0 =>
     have hk1 : ks1 = p.1 := hks.trans (kv_set (i := i) hbo hx).2
     exact .inl ⟨j0,rfl,hk1,by rw [hk1,hx] at hj; exact Option.some.inj hj⟩
    | none =>
     obtain ⟨_,g2,g3⟩ := kv_new (i := i) hbo hx
     have hk1 : ks1 = p.1 ++ [h] := hks.trans g2
     exact .inr ⟨rfl,hk1,by rw [hk1,at_snoc hx] at hj; exact (Option.some.inj hj).symm,g3⟩
   have hM1 : ks1 = p.1 ++ [h] → p.2 h = 0 → Box.mapS (ks1.map fun x => (heardA x,valB p x)) (List.range ks1.length) ks1.length = .mapS (kvB p ++ [(heardA h,.int .i64 0)]) (List.range p.1.length ++ [p.1.length]) (p.1.length + 1) := fun e1 e2 => by
    rw [e1,List.map_append,List.length_append,List.length_singleton,List.range_succ]
    show Box.mapS (_ ++ [(heardA h,AV.int .i64 ((p.2 h : Nat) : Int))]) _ _ = _
    rw [e2]; rfl
   refine adrawS (envCOk _ _ _) mixed (V := vcV _) (fun h hd _ _ _ hi hf hs _ _ _ hn => vcV_sound (envCOk _ _ _) h hd hi hf hs hn) (by kernel_rfl)
    (fun D st => (st.vals 3 = .v (.eptr [.eptr [.int .i64 b.sounds,.slice 2 (b.alphabets.map alphA),.slice 2 (b.spellings.map spelA),.map bm]]) ∧ st.vals 4 = .v (.eptr [.int .i64 i]) ∧ st.vals 5 = .loc 5 0 ∧ st.loc 5 = some (heardL h) ∧ lastOk D) ∧
     (D 0 = true → st.vals 20 = .v (.eptr [.int .i64 b.sounds,.slice 2 (b.alphabets.map alphA),.slice 2 (b.spellings.map spelA),.map bm])) ∧ (D 1 = true → st.vals 21 = .v (.eptr [.int .i64 b.sounds,.slice 2 (b.alphabets.map alphA),.slice 2 (b.spellings.map spelA),.map bm])) ∧
     (D 2 = true → st.vals 22 = .v (.eptr [.map bm])) ∧ (D 3 = true → st.vals 23 = .v (.map bm)) ∧ (D 4 = true → st.vals 24 = .v (heardA h)) ∧ (D 5 = true → st.vals 25 = .v (.int .i64 (p.2 h))) ∧ (D 6 = true → st.vals 26 = .v (.int .i64 i)) ∧
     (D 7 = true → st.vals 27 = .v (.int .i64 ((2 ^ i : Nat) : Int))) ∧ (D 8 = true → st.vals 28 = .v (.int .i64 ((p.2 h ||| 2 ^ i : Nat) : Int))) ∧ (D 9 = true → st.vals 29 = .v (.tuple [.int .i64 (p.2 h),.int .i64 j])) ∧ (D 10 = true → st.vals 30 = .v (.int .i64 j)) ∧
     st.mem = if D 11 = true then upd M0 bm (some (boxB (addB i p h))) else if D 9 = true then upd M0 bm (some (.mapS (ks1.map fun x => (heardA x,valB p x)) (List.range ks1.length) ks1.length)) else M0)
    ⟨[],[],[],upd M0 bm (some (boxB (addB i p h)))⟩ rfl ?_ ?_ ?_ ?_
   ·refine ⟨⟨rfl,rfl,rfl,rfl,fun q => by cases q⟩,?_⟩
    simp
   ·intro D k o st hop hD hw ⟨⟨a1,a2,a3,a4,aL⟩,v0,v1,v2,v3,v4,v5,v6,v7,v8,v9,v10,vm⟩
    have hk12 : k < 12 := (Array.getElem?_eq_some_iff.1 hop).1
    have hkc : k = 0 ∨ k = 1 ∨ k = 2 ∨ k = 3 ∨ k = 4 ∨ k = 5 ∨ k = 6 ∨ k = 7 ∨ k = 8 ∨ k = 9 ∨ k = 10 ∨ k = 11 := by omega
    rcases hkc with rfl | rfl | rfl | rfl | rfl | rfl | rfl | rfl | rfl | rfl | rfl | rfl
    all_goals obtain rfl := Option.some.inj hop
    all_goals simp [waitsOk,Region.binds] at hw
    all_goals unfold vcV
    ·rw [if_neg (by decide)]
     simp(maxSteps:=9^9)only[↓VX,VQ,seval,a1,a2,a3,a4]
     repeat' (first | assumption | exact v9 d9 | exact fun _ => trivial | exact lastOk_upd aL (by decide) | apply And.intro)
    ·rw [if_neg (by decide)]
     simp(maxSteps:=9^9)only[↓VX,VQ,seval,a1,a2,a3,a4,v0 hw]
     repeat' (first | assumption | exact v9 d9 | exact fun _ => trivial | exact lastOk_upd aL (by decide) | apply And.intro)
    ·rw [if_neg (by decide)]
     simp(maxSteps:=9^9)only[↓VX,VQ,seval,a1,a2,a3,a4,v1 hw]
     repeat' (first | assumption | exact v9 d9 | exact fun _ => trivial | exact lastOk_upd aL (by decide) | apply And.intro)
    ·rw [if_neg (by decide)]
     simp(maxSteps:=9^9)only[↓VX,VQ,seval,a1,a2,a3,a4,v2 hw]
     repeat' (first | assumption | exact v9 d9 | exact fun _ => trivial | exact lastOk_upd aL (by decide) | apply And.intro)
    ·rw [if_neg (by decide)]
     simp(maxSteps:=9^9)only[↓VX,VQ,seval,a1,a2,a3,a4,heardA,heardL]
     repeat' (first | assumption | exact v9 d9 | exact fun _ => trivial | exact lastOk_upd aL (by decide) | apply And.intro)
    ·rw [if_pos (by decide)]
     have d11 := lastOk_no aL (k := 5) (by decide) hD
     rw [d11,if_neg (by decide)] at vm
     cases d9 : D 9 with
     | true =>
      rw [d9,if_pos rfl] at vm
      simp(maxSteps:=9^9)only[↓VX,VQ,seval,vcX,evX,a1,a2,a3,a4,v3 hw.1,v4 hw.2,vm,d9,d11]
      refine ⟨some j,hka1,(heardA h,valB p h),hg1,?_⟩
      repeat' (first | assumption | exact v9 d9 | exact fun _ => trivial | exact lastOk_upd aL (by decide) | exact fun _ => rfl | rfl | apply And.intro)
     | false =>
      rw [d9,if_neg (by decide)] at vm
      simp(maxSteps:=9^9)only[↓VX,VQ,seval,vcX,evX,a1,a2,a3,a4,v3 hw.1,v4 hw.2,vm,d9,d11,hM0b,boxB]
      rcases hcase with ⟨j0,hx,hk1,hj0⟩ | ⟨hx,hk1,hj0,hz⟩
      ·refine ⟨some j0,by rw [← hx]; exact hka0,(heardA h,valB p h),kv_some hx,?_⟩
       repeat' (first | assumption | exact v9 d9 | exact fun _ => trivial | exact lastOk_upd aL (by decide) | exact fun _ => rfl | rfl | apply And.intro)
      ·refine ⟨none,by rw [← hx]; exact hka0,?_⟩
       dsimp only
       repeat' (first | assumption | exact v9 d9 | exact fun _ => trivial | exact lastOk_upd aL (by decide) | exact fun _ => rfl | rfl | (intro _; rw [hz]; rfl) | (rw [hz]; rfl) | apply And.intro)
    ·rw [if_neg (by decide)]
     simp(maxSteps:=9^9)only[↓VX,VQ,seval,a1,a2,a3,a4]
     repeat' (first | assumption | exact v9 d9 | exact fun _ => trivial | exact lastOk_upd aL (by decide) | apply And.intro)
    ·rw [if_neg (by decide)]
     simp(maxSteps:=9^9)only[↓VX,VQ,seval,a1,a2,a3,a4,v6 hw]
     refine ⟨⟨by omega,by omega,Int.le_trans (by decide) (Int.natCast_nonneg _),Int.le_trans (Int.ofNat_le.2 h2i) (by decide)⟩,?_⟩
     repeat' (first | assumption | exact v9 d9 | exact fun _ => trivial | exact lastOk_upd aL (by decide) | apply And.intro)
    ·rw [if_neg (by decide)]
     simp(maxSteps:=9^9)only[↓VX,VQ,seval,a1,a2,a3,a4,v5 hw.1,v7 hw.2]
     refine ⟨⟨⟨Int.natCast_nonneg _,Int.le_trans (Int.ofNat_le.2 (Nat.le_of_lt (hbo.b h))) (by decide)⟩,Int.natCast_nonneg _,Int.le_trans (Int.ofNat_le.2 h2i) (by decide)⟩,?_⟩
     repeat' (first | assumption | exact v9 d9 | exact fun _ => trivial | exact lastOk_upd aL (by decide) | apply And.intro)
    ·rw [if_pos (by decide)]
     have d11 := lastOk_no aL (k := 9) (by decide) hD
     rw [d11,hD,if_neg (by decide),if_neg (by decide)] at vm
     simp(maxSteps:=9^9)only[↓VX,VQ,seval,vcX,evX,a1,a2,a3,a4,v3 hw.1,v4 hw.2.1,vm,d11,hM0b,boxB]
     rcases hcase with ⟨j0,hx,hk1,rfl⟩ | ⟨hx,hk1,hj0,hz⟩
     ·refine ⟨some j0,by rw [← hx]; exact hka0,(heardA h,valB p h),j0,kv_some hx,by rw [List.getElem?_range (by rw [← hk1]; exact hjl)],?_⟩
      repeat' (first | assumption | exact v9 d9 | exact fun _ => trivial | exact lastOk_upd aL (by decide) | exact fun _ => rfl | rfl | (rw [hk1]; rfl) | apply And.intro)
     ·refine ⟨none,by rw [← hx]; exact hka0,?_⟩
      dsimp only
      repeat' (first | assumption | exact v9 d9 | exact fun _ => trivial | exact lastOk_upd aL (by decide) | exact fun _ => rfl | rfl | (intro _; rw [hz,hj0]; rfl) | (rw [hz,hj0]; rfl) | (rw [hM1 hk1 hz]; rfl) | apply And.intro)
    ·rw [if_neg (by decide)]
     simp(maxSteps:=9^9)only[↓VX,VQ,seval,a1,a2,a3,a4,v9 hw]
     repeat' (first | assumption | exact v9 d9 | exact fun _ => trivial | exact lastOk_upd aL (by decide) | apply And.intro)
    ·rw [if_pos (by decide)]
     have d9 := hw.2.2.2.1
     rw [hD,d9,if_neg (by decide),if_pos rfl] at vm
     simp(maxSteps:=9^9)only[↓VX,VQ,seval,vcX,evX,a1,a2,a3,a4,v3 hw.1,v10 hw.2.1,v8 hw.2.2.1,vm,d9]
     refine ⟨j,(heardA h,valB p h),born_range hjl,hg1,?_⟩
     have hlast : lastOk (upd D 11 true) := fun _ q hq => by
      have hqc : q = 0 ∨ q = 1 ∨ q = 2 ∨ q = 3 ∨ q = 4 ∨ q = 5 ∨ q = 6 ∨ q = 7 ∨ q = 8 ∨ q = 9 ∨ q = 10 := by omega
      rw [upd_ne _ _ (by omega)]
      rcases hqc with rfl | rfl | rfl | rfl | rfl | rfl | rfl | rfl | rfl | rfl | rfl <;> simp [hw]
     repeat' (first | assumption | exact v9 d9 | exact fun _ => trivial | exact fun _ => rfl | rfl | (rw [upd_upd,hstep]) | apply And.intro)
   ·intro D st hD hI
    have hI := hI.2.2.2.2.2.2.2.2.2.2.2.2
    rw [if_pos (hD 11 (by decide))] at hI
    (simp only [FE,↓FP,seval])
    exact hI
   ·have hM0l : M0 l = some (.loop .busy none R) := by rw [hM0,upd_same]
    simp(maxSteps:=9^9)only[↓VX,VQ,seval,hlb,hlb.symm,hM0l]
    refine ⟨⟨fun k x hk hx => ?_⟩,fun y hy => ?_⟩
    ·simp only [not_or] at hk
     rw [upd_ne _ _ hk.1,upd_ne _ _ hk.2,hM0,upd_ne _ _ hk.1]; exact hx
    ·rcases List.mem_append.1 hy with q | q
     ·exact j1 y q
     ·rw [List.mem_singleton] at q; rw [q]; exact hh
  ·obtain ⟨j1,j2,j3⟩ := hJ
   exact ⟨j1,by rw [hs l (.inl rfl)]; exact j2,by rw [hs bm (.inr rfl)]; exact j3⟩
 refine ACall.mono (hs1 bm i l hil _ _ hyok _ ?_ ?_) ?_ <;> (try dsimp only)
 ·rintro k (rfl | rfl)
  ·rw [upd_same]; simp
  ·rw [upd_ne _ _ (Ne.symm hlb),hm0]; simp
 ·exact ⟨by simp,upd_same _ _ _,by rw [upd_ne _ _ (Ne.symm hlb),hm0]; rfl⟩
 ·rintro r m' ⟨k1,j1,j2,j3⟩
  have hl0 : m0 l = none := hl
  clear hyok hs1
  simp(maxSteps:=9^9)only[↓VX,VQ,seval,j2,hlb,hlb.symm]
  refine ⟨⟨by omega,by omega⟩,(i + 1,upd m' l none),⟨by dsimp only; omega,?_,⟨fun k x hk hx => ?_⟩⟩,by dsimp only; omega,?_⟩
  ·dsimp only
   rw [upd_ne _ _ (Ne.symm hlb),lookTo,hP]; exact j3
  ·have h1 := hk0.get k x hk hx
   have h2 : k ≠ l := fun e => by rw [e,hl0] at h1; cases h1
   dsimp only
   rw [upd_ne _ _ h2]
   exact k1.get k x (fun q => q.elim h2 hk) (by rw [upd_ne _ _ h2]; exact h1)
  ·(simp only [FE,↓FP,seval])
   simp
end Go.Proofs.YtdmejgfcaacdoaaGreat.Abs
