/- Lemmas for the statements of this seat (X16): they hold without conditions beyond those that each one states. -/
import Derived.Test.YtdmejgfcaacdoaaGreatX15
import Derived.Test.YtdmejgfcaacdoaaGreatX13
/- Laws: chests that are valid. -/
namespace Go.Proofs.YtdmejgfcaacdoaaGreat.Abs
set_option linter.unusedSimpArgs false
open Go Go.RowKit Go.Proofs
structure VCopy where
 number : Nat
 words : Nat
 facts : Nat
 may : Nat
deriving Inhabited
structure VRule where
 if_ : Nat
 then_ : Nat
deriving Inhabited
structure VChest where
 words : Nat
 facts : Nat
 people : List ByteArray
 last : Nat
 copies : List VCopy
 rules : List VRule
structure VOk (v : VChest) : Prop where
 w : 1 ≤ v.words ∧ v.words ≤ 5
 f : 1 ≤ v.facts ∧ v.facts ≤ 6
 l : v.last ≤ 30
 p : v.people.length ≤ 3
 names : (failFrom (nameErr v.people) 0 v.people).2 = 0
 c : v.copies.length ≤ 6
 copy : ∀ x ∈ v.copies,1 ≤ x.number ∧ x.number ≤ v.last ∧ x.words < 2 ^ v.words ∧ x.facts < 2 ^ v.facts ∧ x.may < 2 ^ v.people.length
 rise : ∀ i,i + 1 < v.copies.length → (v.copies[i]!).number < (v.copies[i + 1]!).number
 r : v.rules.length ≤ 4
 rule : ∀ x ∈ v.rules,0 < x.if_ ∧ x.if_ < 2 ^ v.facts ∧ x.then_ < v.facts
theorem failFrom_zero {α : Type} {f : Nat → α → Int} : ∀ {l : List α} {k : Nat},(failFrom f k l).2 = 0 ↔ ∀ i (h : i < l.length),f (k + i) l[i] = 0
 | [],k => by simp [failFrom]
 | x :: xs,k => by
  by_cases hx : f k x = 0
  ·rw [failFrom_skip (by simp [hx]),failFrom_zero]
   constructor
   ·intro h i hi
    cases i with
    | zero => simpa using hx
    | succ i => have := h i (by simpa using hi); rw [show k + (i + 1) = k + 1 + i by omega]; simpa using this
   ·intro h i hi
    have := h (i + 1) (by simpa using hi)
    rw [show k + 1 + i = k + (i + 1) by omega]; simpa using this
  ·rw [failFrom_hit hx]
   constructor
   ·intro h; exact absurd h hx
   ·intro h; have := h 0 (by simp); simp at this; exact absurd this hx
theorem offP_false {lo hi n : Int} : offP lo hi n = false ↔ lo ≤ n ∧ n ≤ hi := by simp [offP]
def RCopy.v (x : RCopy) : VCopy := ⟨x.number.toNat,x.words.toNat,x.facts.toNat,x.may.toNat⟩
def RRule.v (x : RRule) : VRule := ⟨x.if_.toNat,x.then_.toNat⟩
def RChest.v (c : RChest) : VChest := ⟨c.words.toNat,c.facts.toNat,c.people,c.last.toNat,c.copies.map RCopy.v,c.rules.map RRule.v⟩
set_option maxHeartbeats 4000000
set_option maxRecDepth 100000
def Keeps (S : Nat → Prop) (m m' : Mem) : Prop := ∀ b x,¬ S b → m b = some x → m' b = some x
theorem Keeps.refl (S : Nat → Prop) (m : Mem) : Keeps S m m := fun _ _ _ h => h
theorem Keeps.trans {S : Nat → Prop} {m m' m'' : Mem} (h : Keeps S m m') (k : Keeps S m' m'') : Keeps S m m'' := fun b x hb hx => k b x hb (h b x hb hx)
structure YOk (l : Nat) (S : Nat → Prop) (J : List Nat → Mem → Prop) (F : Mem → Prop) : Prop where
 y : ∀ (x : Nat) rest m,J (x :: rest) m → AYield Tryz.prog l [.int .i64 x] m fun r m' => Keeps S m m' ∧ ((r = .bool true ∧ J rest m') ∨ (r = .bool false ∧ F m'))
structure WOk (g : FuncId) (caps : List AV) (p : Nat → Bool) (S : Nat → Prop) (M : Mem → Prop) : Prop where
 w : ∀ (x : Nat) m,x < 2 ^ 60 → M m → ACall Tryz.prog g ([.int .i64 x] ++ caps) m fun r m' => r = .bool (p x) ∧ M m' ∧ Keeps S m m'
 up : ∀ m b x,M m → m b = none → M (upd m b (some x))
 ext : ∀ m m',M m → (∀ b,S b → m' b = m b) → M m'
 dom : ∀ m b,M m → S b → m b ≠ none
theorem idxL_cases {α : Type} (p : α → Bool) (l : List α) : idxL p l = -1 ∨ ∃ k,k < l.length ∧ idxL p l = (k : Int) := by
 induction l with
 | nil => exact .inl rfl
 | cons x l ih =>
  unfold idxL
  by_cases h : p x = true
  ·right; exact ⟨0,by simp,by simp [h]⟩
  ·rw [if_neg h]
   rcases ih with ih | ⟨k,h1,h2⟩
   ·left; rw [ih]; rfl
   ·right; exact ⟨k + 1,by simp; omega,by rw [if_neg (by omega),h2]; simp⟩
theorem intsT_c (a : List Int) : PCall Tryz.prog 37 [ints a,ints a] (.bool true) := by
 have := ints_c a a
 rwa [decide_eq_true rfl] at this
end Go.Proofs.YtdmejgfcaacdoaaGreat.Abs
