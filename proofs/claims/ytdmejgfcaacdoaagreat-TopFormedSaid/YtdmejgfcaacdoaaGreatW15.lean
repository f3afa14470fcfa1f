/- Lemmas for the statements of this seat (W15): they hold without conditions beyond those that each one states. -/
import Derived.Test.YtdmejgfcaacdoaaGreatW14
import Derived.Test.YtdmejgfcaacdoaaGreatW13
/- Laws: chests that are valid. -/
namespace Go.Proofs.YtdmejgfcaacdoaaGreat.Abs
set_option linter.unusedSimpArgs false
open Go Go.RowKit Go.Proofs
structure VCopy where
 number : Nat
 words : Nat
 facts : Nat
 may : Nat
deriving Inhabited
structure VRule where
 if_ : Nat
 then_ : Nat
deriving Inhabited
structure VChest where
 words : Nat
 facts : Nat
 people : List ByteArray
 last : Nat
 copies : List VCopy
 rules : List VRule
def VCopy.raw (x : VCopy) : RCopy := ⟨x.number,x.words,x.facts,x.may⟩
def VRule.raw (x : VRule) : RRule := ⟨x.if_,x.then_⟩
def VChest.raw (v : VChest) : RChest := ⟨v.words,v.facts,v.people,v.last,v.copies.map VCopy.raw,v.rules.map VRule.raw⟩
def vcopyA (x : VCopy) : AV := .agg [.int .i64 x.number,.int .i64 x.words,.int .i64 x.facts,.int .i64 x.may]
def vruleA (x : VRule) : AV := .agg [.int .i64 x.if_,.int .i64 x.then_]
def vchestL (v : VChest) : List AV := [.int .i64 v.words,.int .i64 v.facts,strs v.people,.int .i64 v.last,.slice 4 (v.copies.map vcopyA),.slice 2 (v.rules.map vruleA)]
def vchestA (v : VChest) : AV := .agg (vchestL v)
theorem vchestL_raw (v : VChest) : chestL v.raw = vchestL v := by
 simp only [chestL,vchestL,VChest.raw,List.map_map]
 rfl
theorem vchestA_raw (v : VChest) : chestA v.raw = vchestA v := by rw [chestA,vchestL_raw]; rfl
structure VOk (v : VChest) : Prop where
 w : 1 ≤ v.words ∧ v.words ≤ 5
 f : 1 ≤ v.facts ∧ v.facts ≤ 6
 l : v.last ≤ 30
 p : v.people.length ≤ 3
 names : (failFrom (nameErr v.people) 0 v.people).2 = 0
 c : v.copies.length ≤ 6
 copy : ∀ x ∈ v.copies,1 ≤ x.number ∧ x.number ≤ v.last ∧ x.words < 2 ^ v.words ∧ x.facts < 2 ^ v.facts ∧ x.may < 2 ^ v.people.length
 rise : ∀ i,i + 1 < v.copies.length → (v.copies[i]!).number < (v.copies[i + 1]!).number
 r : v.rules.length ≤ 4
 rule : ∀ x ∈ v.rules,0 < x.if_ ∧ x.if_ < 2 ^ v.facts ∧ x.then_ < v.facts
theorem failFrom_zero {α : Type} {f : Nat → α → Int} : ∀ {l : List α} {k : Nat},(failFrom f k l).2 = 0 ↔ ∀ i (h : i < l.length),f (k + i) l[i] = 0
 | [],k => by simp [failFrom]
 | x :: xs,k => by
  by_cases hx : f k x = 0
  ·rw [failFrom_skip (by simp [hx]),failFrom_zero]
   constructor
   ·intro h i hi
    cases i with
    | zero => simpa using hx
    | succ i => have := h i (by simpa using hi); rw [show k + (i + 1) = k + 1 + i by omega]; simpa using this
   ·intro h i hi
    have := h (i + 1) (by simpa using hi)
    rw [show k + 1 + i = k + (i + 1) by omega]; simpa using this
  ·rw [failFrom_hit hx]
   constructor
   ·intro h; exact absurd h hx
   ·intro h; have := h 0 (by simp); simp at this; exact absurd this hx
theorem offP_false {lo hi n : Int} : offP lo hi n = false ↔ lo ≤ n ∧ n ≤ hi := by simp [offP]
theorem copyErr_iff {c : RChest} {w f p : Int} {i : Nat} {x : RCopy} : copyErr c w f p i x = 0 ↔ (1 ≤ x.number ∧ x.number ≤ c.last) ∧ ¬ (0 < i ∧ x.number ≤ (c.copies[i - 1]!).number) ∧ (0 ≤ x.words ∧ x.words ≤ w - 1) ∧ (0 ≤ x.facts ∧ x.facts ≤ f - 1) ∧ (0 ≤ x.may ∧ x.may ≤ p - 1) := by
 unfold copyErr
 by_cases h1 : offP 1 c.last x.number = true
 ·rw [if_pos h1]
  constructor
  ·intro h; cases h
  ·rintro ⟨h,_⟩; rw [offP_false.2 h] at h1; cases h1
 ·rw [if_neg h1]
  rw [Bool.not_eq_true] at h1
  by_cases h2 : 0 < i ∧ x.number ≤ (c.copies[i - 1]!).number
  ·rw [if_pos h2]
   constructor
   ·intro h; cases h
   ·rintro ⟨_,h,_⟩; exact absurd h2 h
  ·rw [if_neg h2]
   by_cases h3 : (offP 0 (w - 1) x.words || offP 0 (f - 1) x.facts || offP 0 (p - 1) x.may) = true
   ·rw [if_pos h3]
    constructor
    ·intro h; cases h
    ·rintro ⟨_,_,ha,hb,hc⟩; rw [offP_false.2 ha,offP_false.2 hb,offP_false.2 hc] at h3; cases h3
   ·rw [if_neg h3]
    simp only [Bool.or_eq_true,not_or,Bool.not_eq_true] at h3
    exact ⟨fun _ => ⟨offP_false.1 h1,h2,offP_false.1 h3.1.1,offP_false.1 h3.1.2,offP_false.1 h3.2⟩,fun _ => rfl⟩
theorem ruleErr_iff {c : RChest} {f : Int} {x : RRule} : ruleErr c f x = 0 ↔ (0 ≤ x.if_ ∧ x.if_ ≤ f - 1) ∧ (0 ≤ x.then_ ∧ x.then_ ≤ c.facts - 1) ∧ ¬ x.if_ = 0 := by
 unfold ruleErr
 by_cases h3 : (offP 0 (f - 1) x.if_ || offP 0 (c.facts - 1) x.then_) = true
 ·rw [if_pos h3]
  constructor
  ·intro h; cases h
  ·rintro ⟨ha,hb,_⟩; rw [offP_false.2 ha,offP_false.2 hb] at h3; cases h3
 ·rw [if_neg h3]
  simp only [Bool.or_eq_true,not_or,Bool.not_eq_true] at h3
  by_cases h2 : x.if_ = 0
  ·rw [if_pos h2]
   constructor
   ·intro h; cases h
   ·rintro ⟨_,_,h⟩; exact absurd h2 h
  ·rw [if_neg h2]
   exact ⟨fun _ => ⟨offP_false.1 h3.1,offP_false.1 h3.2,h2⟩,fun _ => rfl⟩
theorem checkR_parts {c : RChest} (h : (checkR c).2.2 = 0) : (offP 1 5 c.words || offP 1 6 c.facts || offP 0 30 c.last) = false ∧ c.people.length ≤ 3 ∧ (namesR c).2 = 0 ∧ c.copies.length ≤ 6 ∧ (copiesR c).2 = 0 ∧ c.rules.length ≤ 4 ∧ (rulesR c).2 = 0 := by
 unfold checkR at h
 split at h
 ·cases h
 ·rename_i h1
  split at h
  ·cases h
  ·rename_i h2
   split at h
   ·rename_i h3; exact absurd h h3
   ·rename_i h3
    split at h
    ·cases h
    ·rename_i h4
     split at h
     ·rename_i h5; exact absurd h h5
     ·rename_i h5
      split at h
      ·cases h
      ·rename_i h6
       split at h
       ·rename_i h7; exact absurd h h7
       ·rename_i h7
        exact ⟨by simpa using h1,by omega,by simpa using h3,by omega,by simpa using h5,by omega,by simpa using h7⟩
theorem checkR_ok {c : RChest} (h : (offP 1 5 c.words || offP 1 6 c.facts || offP 0 30 c.last) = false ∧ c.people.length ≤ 3 ∧ (namesR c).2 = 0 ∧ c.copies.length ≤ 6 ∧ (copiesR c).2 = 0 ∧ c.rules.length ≤ 4 ∧ (rulesR c).2 = 0) : checkR c = (0,0,0) := by
 obtain ⟨h1,h2,h3,h4,h5,h6,h7⟩ := h
 rw [checkR,if_neg (by rw [h1]; simp),if_neg (by omega),if_neg (by simp [h3]),if_neg (by omega),if_neg (by simp [h5]),if_neg (by omega),if_neg (by simp [h7])]
theorem copies_get (v : VChest) (i : Nat) (h : i < v.copies.length) : (v.raw.copies[i]!).number = ((v.copies[i]!).number : Int) := by
 have h' : i < v.raw.copies.length := by simpa [VChest.raw] using h
 rw [getD_any h',getD_any h]
 simp [VChest.raw,VCopy.raw]
theorem vok_check {v : VChest} (h : VOk v) : checkR v.raw = (0,0,0) := by
 refine checkR_ok ⟨?_,h.p,h.names,by simpa [VChest.raw] using h.c,?_,by simpa [VChest.raw] using h.r,?_⟩
 ·have h1 := h.w; have h2 := h.f; have h3 := h.l
  simp only [Bool.or_eq_false_iff,offP_false,VChest.raw]
  omega
 ·unfold copiesR
  rw [failFrom_zero]
  intro i hi
  have hi' : i < v.copies.length := by simpa [VChest.raw] using hi
  rw [copyErr_iff]
  have hx : v.raw.copies[i] = (v.copies[i]).raw := by simp [VChest.raw]
  obtain ⟨c1,c2,c3,c4,c5⟩ := h.copy _ (List.getElem_mem hi')
  rw [hx]
  simp only [VCopy.raw,Nat.zero_add]
  refine ⟨⟨by omega,by show ((v.copies[i]).number : Int) ≤ (v.last : Int); omega⟩,?_,?_,?_,?_⟩
  ·rintro ⟨q1,q2⟩
   rw [copies_get v (i - 1) (by omega)] at q2
   have := h.rise (i - 1) (by omega)
   rw [show i - 1 + 1 = i by omega,getD_any hi'] at this
   omega
  ·show 0 ≤ ((v.copies[i]).words : Int) ∧ ((v.copies[i]).words : Int) ≤ ((2 ^ ((v.words : Nat) : Int).toNat : Nat) : Int) - 1
   rw [Int.toNat_natCast]; omega
  ·show 0 ≤ ((v.copies[i]).facts : Int) ∧ ((v.copies[i]).facts : Int) ≤ ((2 ^ ((v.facts : Nat) : Int).toNat : Nat) : Int) - 1
   rw [Int.toNat_natCast]; omega
  ·show 0 ≤ ((v.copies[i]).may : Int) ∧ ((v.copies[i]).may : Int) ≤ ((2 ^ ((v.people.length : Nat) : Int).toNat : Nat) : Int) - 1
   rw [Int.toNat_natCast]; omega
 ·unfold rulesR
  rw [failFrom_zero]
  intro i hi
  have hi' : i < v.rules.length := by simpa [VChest.raw] using hi
  rw [ruleErr_iff]
  have hx : v.raw.rules[i] = (v.rules[i]).raw := by simp [VChest.raw]
  obtain ⟨c1,c2,c3⟩ := h.rule _ (List.getElem_mem hi')
  rw [hx]
  simp only [VRule.raw]
  refine ⟨?_,?_,by omega⟩
  ·show 0 ≤ ((v.rules[i]).if_ : Int) ∧ ((v.rules[i]).if_ : Int) ≤ ((2 ^ ((v.facts : Nat) : Int).toNat : Nat) : Int) - 1
   rw [Int.toNat_natCast]; omega
  ·show 0 ≤ ((v.rules[i]).then_ : Int) ∧ ((v.rules[i]).then_ : Int) ≤ (v.facts : Int) - 1
   omega
def RCopy.v (x : RCopy) : VCopy := ⟨x.number.toNat,x.words.toNat,x.facts.toNat,x.may.toNat⟩
def RRule.v (x : RRule) : VRule := ⟨x.if_.toNat,x.then_.toNat⟩
def RChest.v (c : RChest) : VChest := ⟨c.words.toNat,c.facts.toNat,c.people,c.last.toNat,c.copies.map RCopy.v,c.rules.map RRule.v⟩
theorem valid_v {c : RChest} (h : (checkR c).2.2 = 0) : c = c.v.raw ∧ VOk c.v := by
 obtain ⟨h1,h2,h3,h4,h5,h6,h7⟩ := checkR_parts h
 simp only [Bool.or_eq_false_iff,offP_false] at h1
 unfold copiesR at h5
 rw [failFrom_zero] at h5
 unfold rulesR at h7
 rw [failFrom_zero] at h7
 have hc : ∀ i (hi : i < c.copies.length),_ := fun i hi => copyErr_iff.1 (h5 i hi)
 have hr : ∀ i (hi : i < c.rules.length),_ := fun i hi => ruleErr_iff.1 (h7 i hi)
 have e : c = c.v.raw := by
  obtain ⟨w,f,p,l,cs,rs⟩ := c
  simp only [RChest.v,VChest.raw,List.map_map] at *
  have e1 : cs.map (VCopy.raw ∘ RCopy.v) = cs := by
   conv => rhs; rw [← List.map_id cs]
   refine List.map_congr_left fun x hx => ?_
   obtain ⟨i,hi,rfl⟩ := List.mem_iff_getElem.1 hx
   obtain ⟨q1,_,q3,q4,q5⟩ := hc i hi
   show RCopy.mk _ _ _ _ = cs[i]
   rw [show cs[i] = ⟨(cs[i]).number,(cs[i]).words,(cs[i]).facts,(cs[i]).may⟩ from rfl]
   simp only [RCopy.v,RCopy.mk.injEq]
   omega
  have e2 : rs.map (VRule.raw ∘ RRule.v) = rs := by
   conv => rhs; rw [← List.map_id rs]
   refine List.map_congr_left fun x hx => ?_
   obtain ⟨i,hi,rfl⟩ := List.mem_iff_getElem.1 hx
   obtain ⟨q1,q2,_⟩ := hr i hi
   show RRule.mk _ _ = rs[i]
   rw [show rs[i] = ⟨(rs[i]).if_,(rs[i]).then_⟩ from rfl]
   simp only [RRule.v,RRule.mk.injEq]
   omega
  rw [e1,e2]
  simp only [RChest.mk.injEq,and_true,true_and]
  omega
 refine ⟨e,?_⟩
 have pwn : ∀ n : Int,pw n = ((2 ^ n.toNat : Nat) : Int) := fun _ => rfl
 refine ⟨?_,?_,?_,h2,h3,by simpa [RChest.v] using h4,?_,?_,by simpa [RChest.v] using h6,?_⟩
 ·simp only [RChest.v]; omega
 ·simp only [RChest.v]; omega
 ·simp only [RChest.v]; omega
 ·intro x hx
  simp only [RChest.v,List.mem_map] at hx
  obtain ⟨y,hy,rfl⟩ := hx
  obtain ⟨i,hi,rfl⟩ := List.mem_iff_getElem.1 hy
  obtain ⟨q1,_,q3,q4,q5⟩ := hc i hi
  rw [pwn] at q3 q4 q5
  simp only [RChest.v,RCopy.v]
  rw [Int.toNat_natCast] at q5
  omega
 ·intro i hi
  simp only [RChest.v,List.length_map] at hi
  have hg : ∀ j (hj : j < c.copies.length),(c.v.copies[j]!).number = (c.copies[j]).number.toNat := fun j hj => by
   rw [getD_any (by simpa [RChest.v] using hj)]; simp [RChest.v,RCopy.v]
  rw [hg i (by omega),hg (i + 1) hi]
  obtain ⟨q1,_⟩ := hc i (by omega)
  obtain ⟨q3,q4,_⟩ := hc (i + 1) hi
  rw [show 0 + (i + 1) - 1 = i by omega,getD_any (by omega : i < c.copies.length)] at q4
  omega
 ·intro x hx
  simp only [RChest.v,List.mem_map] at hx
  obtain ⟨y,hy,rfl⟩ := hx
  obtain ⟨i,hi,rfl⟩ := List.mem_iff_getElem.1 hy
  obtain ⟨q1,q2,q3⟩ := hr i hi
  rw [pwn] at q1
  simp only [RChest.v,RRule.v]
  omega
set_option maxHeartbeats 4000000
set_option maxRecDepth 100000
def setOf (f : Nat → Bool) : Nat → Nat
 | 0 => 0
 | n + 1 => if f n = true then setOf f n ||| 2 ^ n else setOf f n
theorem setOf_lt (f : Nat → Bool) : ∀ n,setOf f n < 2 ^ n
 | 0 => by simp [setOf]
 | n + 1 => by
  have h := setOf_lt f n
  have h1 : 2 ^ n < 2 ^ (n + 1) := Nat.pow_lt_pow_right (by decide) (by omega)
  unfold setOf
  split
  ·exact Nat.or_lt_two_pow (by omega) h1
  ·omega
theorem setOf_bit (f : Nat → Bool) (i : Nat) : ∀ n,(setOf f n).testBit i = (decide (i < n) && f i)
 | 0 => by simp [setOf]
 | n + 1 => by
  unfold setOf
  split
  ·rename_i h
   rw [Nat.testBit_or,setOf_bit f i n,Nat.testBit_two_pow]
   by_cases e : n = i
   ·subst e; simp [h]
   ·have h1 : (i < n) ↔ (i < n + 1) := by omega
    simp [e,h1]
  ·rename_i h
   rw [setOf_bit f i n]
   by_cases e : n = i
   ·subst e; simp [h]
   ·have h1 : (i < n) ↔ (i < n + 1) := by omega
    simp [h1]
def subS (a b : Nat) : Bool := decide (natAndNot a b = 0)
theorem natAndNot_bit (a b i : Nat) : (natAndNot a b).testBit i = (a.testBit i && !b.testBit i) := by
 unfold natAndNot
 rw [Nat.testBit_xor,Nat.testBit_and]
 cases a.testBit i <;> cases b.testBit i <;> rfl
theorem subS_iff {a b : Nat} : subS a b = true ↔ ∀ i,a.testBit i = true → b.testBit i = true := by
 unfold subS
 rw [decide_eq_true_eq]
 constructor
 ·intro h i hi
  have := natAndNot_bit a b i
  rw [h,hi] at this
  simpa using this
 ·intro h
  refine Nat.eq_of_testBit_eq fun i => ?_
  rw [natAndNot_bit,Nat.zero_testBit]
  cases ha : a.testBit i
  ·rfl
  ·rw [h i ha]; rfl
def viewS (v : VChest) (p : Nat) : Nat := if p < v.people.length then setOf (fun i => (v.copies[i]!).may.testBit p) v.copies.length else 0
def seenL (v : VChest) (b : Nat) : List AV := [.int .i64 v.words,.int .i64 v.facts,.slice 1 (v.people.map AV.str),.int .i64 v.last,.slice 4 (v.copies.map vcopyA),.slice 2 (v.rules.map vruleA),
 .int .i64 (viewS v 0),.int .i64 (viewS v 1),.int .i64 (viewS v 2),.map b]
def findS (v : VChest) (p ws : Nat) : Nat := setOf (fun i => (viewS v p).testBit i && subS ws (v.copies[i]!).words) v.copies.length
theorem dec_cast (n : Nat) : decide ((n : Int) = 0) = decide (n = 0) := by rw [decide_eq_decide]; omega
theorem worded_c (v : VChest) (b at_ ws : Nat) (hv : VOk v) (ha : at_ < v.copies.length) (hw : ws < 2 ^ 60) : PCall Tryz.prog 105 [.eptr (seenL v b),.int .i64 at_,.int .i64 ws] (.bool (subS ws (v.copies[at_]!).words)) := by
 have hx : (v.copies[at_]!).words < 2 ^ 60 := by
  obtain ⟨_,_,h3,_⟩ := hv.copy _ (List.getElem_mem ha)
  rw [getD_any ha]
  have := hv.w
  exact Nat.lt_of_lt_of_le h3 (Nat.pow_le_pow_right (by decide) (by omega))
 intro m
 simp only [seenL]
 (refine acall_intro (E := env fun _ => .imm) (envOk _) rfl Tryz.func105 rfl Tryz.call105 (by kernel_rfl) (by simp [Tryz.ntmps105]) ?_; simp only [Tryz.f105];  simp(maxSteps:=9^9)only[↓VP,VQ,seval])
 simp(maxSteps:=9^9)only[↓VP,VQ,seval,vcopyA]
 repeat'(first|intro _|apply And.intro)
 all_goals try first|omega|(simp only[LL];omega)|exact nlC (by decide) _|exact nbC rfl
 rw [dec_cast]; rfl
theorem viewS_lt (v : VChest) (hv : VOk v) (p : Nat) : viewS v p < 2 ^ 6 := by
 unfold viewS
 split
 ·exact Nat.lt_of_lt_of_le (setOf_lt _ _) (Nat.pow_le_pow_right (by decide) hv.c)
 ·exact Nat.pow_pos (by decide)
theorem view_drop (v : VChest) (b p : Nat) (hp : p < 3) : List.drop p [AV.int .i64 (viewS v 0),AV.int .i64 (viewS v 1),AV.int .i64 (viewS v 2),AV.map b] = AV.int .i64 (viewS v p) :: List.drop (p + 1) [AV.int .i64 (viewS v 0),AV.int .i64 (viewS v 1),AV.int .i64 (viewS v 2),AV.map b] := by
 have hpp : p = 0 ∨ p = 1 ∨ p = 2 := by omega
 rcases hpp with rfl | rfl | rfl <;> rfl
theorem find_c (v : VChest) (b p ws : Nat) (hv : VOk v) (hp : p < v.people.length) (hw : ws < 2 ^ 60) : PCall Tryz.prog 50 [.eptr (seenL v b),.int .i64 p,.int .i64 ws] (.int .i64 (findS v p ws)) := by
 intro m
 have h3 := hv.p
 have hc6 := hv.c
 have hvp := viewS_lt v hv p
 have hdr := view_drop v b p (by omega)
 have hwc : ∀ k,k < v.copies.length → PCall Tryz.prog 105 [.eptr (seenL v b),.int .i64 k,.int .i64 ws] (.bool (subS ws (v.copies[k]!).words)) := fun k hk => worded_c v b k ws hv hk hw
 simp only [seenL] at hwc ⊢
 (refine acall_intro (E := env fun _ => .imm) (envOk _) rfl Tryz.func50 rfl Tryz.call50 (by kernel_rfl) (by simp [Tryz.ntmps50]) ?_; simp only [Tryz.f50];  simp(maxSteps:=9^9)only[↓VP,VQ,seval])
 repeat'(first|intro _|apply And.intro)
 all_goals try first|omega|(simp only[LL];omega)|exact nlC (by decide) _|exact nbC rfl
 refine aloop (envOk _) (fun k : Nat => ⟨[(0,.v (.eptr (seenL v b))),(1,.v (.int .i64 p)),(2,.v (.int .i64 ws)),(6,.v (.int .i64 (setOf (fun i => (viewS v p).testBit i && subS ws (v.copies[i]!).words) k))),(7,.v (.fn (.func 105) [.eptr (seenL v b)] [])),(16,.v (.int .i64 v.copies.length)),(17,.v (.int .i64 k))],[],[],m⟩)
  (fun k => k ≤ v.copies.length) (fun k => v.copies.length - k) 0 (fun _ => rfl) (by simp) (by simp only [seenL]; (simp only [FE,↓FP,seval]); try simp [setOf]) ?_
 intro k hk
 simp only [seenL]
 have hs := setOf_lt (fun i => (viewS v p).testBit i && subS ws (v.copies[i]!).words) k
 have hle : viewS v p / 2 ^ k ≤ viewS v p := Nat.div_le_self _ _
 have hk6 : 2 ^ k ≤ 2 ^ 6 := Nat.pow_le_pow_right (by decide) (by omega)
 simp(maxSteps:=9^9)only[↓VP,VQ,seval,hdr]
 repeat'(first|intro _|apply And.intro)
 all_goals try first|omega|(simp only[LL];omega)|exact nlC (by decide) _|exact nbC rfl
 ·have hb : (viewS v p).testBit k = true := by assumption
  (refine ACall.pure (hwc k (by omega)) ?_; try simp(maxSteps:=9^9)only[↓VP,VQ,seval])
  repeat'(first|intro _|apply And.intro)
  all_goals try first|omega|(simp only[LL];omega)|exact nlC (by decide) _|exact nbC rfl
  ·have h2 : subS ws (v.copies[k]!).words = true := by assumption
   (refine ⟨k + 1,by first | omega | (dsimp only; omega),by dsimp only; omega,?_⟩; (simp only [FE,↓FP,seval]); try simp [setOf,hb,h2,-List.getElem!_eq_getElem?_getD])
  ·have h2 : ¬ subS ws (v.copies[k]!).words = true := by assumption
   (refine ⟨k + 1,by first | omega | (dsimp only; omega),by dsimp only; omega,?_⟩; (simp only [FE,↓FP,seval]); try simp [setOf,hb,h2,-List.getElem!_eq_getElem?_getD])
 ·have hb : ¬ (viewS v p).testBit k = true := by assumption
  (refine ⟨k + 1,by first | omega | (dsimp only; omega),by dsimp only; omega,?_⟩; (simp only [FE,↓FP,seval]); try simp [setOf,hb])
 ·rw [show k = v.copies.length by omega,findS]
def wordedB (x : VCopy) (l : List Int) : Bool := l.all fun w => x.words.testBit w.toNat
def numbersL (v : VChest) : List Int := v.copies.map fun x => (x.number : Int)
def ownTo (v : VChest) (p : Int) (n : Nat) : List Int := ((List.range n).filter fun i => (v.copies[i]!).may.testBit p.toNat).map fun (i : Nat) => (i : Int)
def ownL (v : VChest) (p : Int) : List Int := ownTo v p v.copies.length
theorem ownTo_length (v : VChest) (p : Int) (n : Nat) : (ownTo v p n).length ≤ n := by
 unfold ownTo
 rw [List.length_map]
 exact Nat.le_trans (List.length_filter_le _ _) (by simp)
theorem may_lt (v : VChest) (hv : VOk v) {k : Nat} (h : k < v.copies.length) : (v.copies[k]!).may < 2 ^ 62 ∧ (v.copies[k]!).words < 2 ^ 62 ∧ (v.copies[k]!).facts < 2 ^ 62 := by
 obtain ⟨_,_,h3,h4,h5⟩ := hv.copy _ (List.getElem_mem h)
 rw [getD_any h]
 have hw := hv.w
 have hf := hv.f
 have hp := hv.p
 exact ⟨Nat.lt_of_lt_of_le h5 (Nat.pow_le_pow_right (by decide) (by omega)),Nat.lt_of_lt_of_le h3 (Nat.pow_le_pow_right (by decide) (by omega)),Nat.lt_of_lt_of_le h4 (Nat.pow_le_pow_right (by decide) (by omega))⟩
def atL (v : VChest) (n : Int) : Int := idxL (fun x : VCopy => decide ((x.number : Int) = n)) v.copies
def foundL (v : VChest) (p : Int) (l : List Int) : List Int := (ownL v p).filter fun i => wordedB (v.copies[i.toNat]!) l
theorem ownL_range {v : VChest} {p i : Int} (h : i ∈ ownL v p) : 0 ≤ i ∧ i < v.copies.length := by
 simp only [ownL,ownTo,List.mem_map,List.mem_filter,List.mem_range] at h
 obtain ⟨k,⟨h1,_⟩,rfl⟩ := h
 omega
def askedR (e n below : Int) (l : List Int) (under : Int) : Int :=
 if e ≠ 0 then e else if offP 0 (below - 1) n = true then 4 else if l.any (offP 0 (under - 1)) = true then 4 else if risingL under (-1) l = true then 0 else 2
end Go.Proofs.YtdmejgfcaacdoaaGreat.Abs
