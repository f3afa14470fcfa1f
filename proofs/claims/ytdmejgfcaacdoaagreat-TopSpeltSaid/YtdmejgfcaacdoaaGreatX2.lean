/- Lemmas for the statements of this seat (X2): they hold without conditions beyond those that each one states. -/
import Derived.Test.YtdmejgfcaacdoaaGreatX1
/- The abstract machine,part 4: operations that compute: what they yield stands for what 'ev' says. -/
namespace Go.Proofs.YtdmejgfcaacdoaaGreat.Abs
set_option linter.unusedSimpArgs false
open Go Go.RowKit
/-! ### Numbers -/
theorem wrap_in (k : IntKind) (n : Int) (h : inR k n) : k.wrap n = n := by
 obtain ⟨h1,h2⟩ := h
 cases k <;> simp [IntKind.min,IntKind.max,IntKind.signed,IntKind.bits] at h1 h2 <;> simp [IntKind.wrap,IntKind.signed,IntKind.bits] <;> omega
theorem bits_and (a b : Int) (ha : small a) (hb : small b) : IntKind.i64.wrap ((BitVec.ofInt 64 a &&& BitVec.ofInt 64 b).toNat : Int) = ((a.toNat &&& b.toNat : Nat) : Int) := by
 obtain ⟨m,rfl⟩ := Int.eq_ofNat_of_zero_le ha.1
 obtain ⟨n,rfl⟩ := Int.eq_ofNat_of_zero_le hb.1
 have h1 := ha.2; have h2 := hb.2
 have e1 : (BitVec.ofInt 64 (m : Int)) = BitVec.ofNat 64 m := BitVec.ofInt_natCast 64 m
 have e2 : (BitVec.ofInt 64 (n : Int)) = BitVec.ofNat 64 n := BitVec.ofInt_natCast 64 n
 rw [e1,e2,BitVec.toNat_and,BitVec.toNat_ofNat,BitVec.toNat_ofNat,Nat.mod_eq_of_lt (by omega),Nat.mod_eq_of_lt (by omega)]
 simp only [Int.toNat_natCast]
 refine wrap_in _ _ ⟨?_,?_⟩
 ·simp [IntKind.min,IntKind.signed,IntKind.bits] <;> omega
 ·have : m &&& n ≤ m := Nat.and_le_left
  simp [IntKind.max,IntKind.signed,IntKind.bits]; omega
theorem bits_or (a b : Int) (ha : small a) (hb : small b) : IntKind.i64.wrap ((BitVec.ofInt 64 a ||| BitVec.ofInt 64 b).toNat : Int) = ((a.toNat ||| b.toNat : Nat) : Int) := by
 obtain ⟨m,rfl⟩ := Int.eq_ofNat_of_zero_le ha.1
 obtain ⟨n,rfl⟩ := Int.eq_ofNat_of_zero_le hb.1
 have h1 := ha.2; have h2 := hb.2
 have e1 : (BitVec.ofInt 64 (m : Int)) = BitVec.ofNat 64 m := BitVec.ofInt_natCast 64 m
 have e2 : (BitVec.ofInt 64 (n : Int)) = BitVec.ofNat 64 n := BitVec.ofInt_natCast 64 n
 rw [e1,e2,BitVec.toNat_or,BitVec.toNat_ofNat,BitVec.toNat_ofNat,Nat.mod_eq_of_lt (by omega),Nat.mod_eq_of_lt (by omega)]
 simp only [Int.toNat_natCast]
 have : m ||| n < 2 ^ 63 := Nat.or_lt_two_pow (by omega) (by omega)
 refine wrap_in _ _ ⟨?_,?_⟩
 ·simp [IntKind.min,IntKind.signed,IntKind.bits] <;> omega
 ·simp [IntKind.max,IntKind.signed,IntKind.bits]; omega
theorem bits_and8 (a b : Int) (ha : 0 ≤ a ∧ a ≤ 255) (hb : 0 ≤ b ∧ b ≤ 255) : IntKind.u8.wrap ((BitVec.ofInt 8 a &&& BitVec.ofInt 8 b).toNat : Int) = ((a.toNat &&& b.toNat : Nat) : Int) := by
 obtain ⟨m,rfl⟩ := Int.eq_ofNat_of_zero_le ha.1
 obtain ⟨n,rfl⟩ := Int.eq_ofNat_of_zero_le hb.1
 have h1 := ha.2; have h2 := hb.2
 have e1 : (BitVec.ofInt 8 (m : Int)) = BitVec.ofNat 8 m := BitVec.ofInt_natCast 8 m
 have e2 : (BitVec.ofInt 8 (n : Int)) = BitVec.ofNat 8 n := BitVec.ofInt_natCast 8 n
 rw [e1,e2,BitVec.toNat_and,BitVec.toNat_ofNat,BitVec.toNat_ofNat,Nat.mod_eq_of_lt (by omega),Nat.mod_eq_of_lt (by omega)]
 simp only [Int.toNat_natCast]
 refine wrap_in _ _ ⟨?_,?_⟩
 ·simp [IntKind.min,IntKind.signed,IntKind.bits] <;> omega
 ·have : m &&& n ≤ m := Nat.and_le_left
  simp [IntKind.max,IntKind.signed,IntKind.bits]; omega
theorem bits_or8 (a b : Int) (ha : 0 ≤ a ∧ a ≤ 255) (hb : 0 ≤ b ∧ b ≤ 255) : IntKind.u8.wrap ((BitVec.ofInt 8 a ||| BitVec.ofInt 8 b).toNat : Int) = ((a.toNat ||| b.toNat : Nat) : Int) := by
 obtain ⟨m,rfl⟩ := Int.eq_ofNat_of_zero_le ha.1
 obtain ⟨n,rfl⟩ := Int.eq_ofNat_of_zero_le hb.1
 have h1 := ha.2; have h2 := hb.2
 have e1 : (BitVec.ofInt 8 (m : Int)) = BitVec.ofNat 8 m := BitVec.ofInt_natCast 8 m
 have e2 : (BitVec.ofInt 8 (n : Int)) = BitVec.ofNat 8 n := BitVec.ofInt_natCast 8 n
 rw [e1,e2,BitVec.toNat_or,BitVec.toNat_ofNat,BitVec.toNat_ofNat,Nat.mod_eq_of_lt (by omega),Nat.mod_eq_of_lt (by omega)]
 simp only [Int.toNat_natCast]
 have : m ||| n < 2 ^ 8 := Nat.or_lt_two_pow (by omega) (by omega)
 refine wrap_in _ _ ⟨?_,?_⟩
 ·simp [IntKind.min,IntKind.signed,IntKind.bits] <;> omega
 ·simp [IntKind.max,IntKind.signed,IntKind.bits]; omega
theorem bits_andNot (a b : Int) (ha : small a) (hb : small b) : IntKind.i64.wrap ((BitVec.ofInt 64 a &&& ~~~ (BitVec.ofInt 64 b)).toNat : Int) = ((natAndNot a.toNat b.toNat : Nat) : Int) := by
 obtain ⟨m,rfl⟩ := Int.eq_ofNat_of_zero_le ha.1
 obtain ⟨n,rfl⟩ := Int.eq_ofNat_of_zero_le hb.1
 have h1 := ha.2; have h2 := hb.2
 have e1 : (BitVec.ofInt 64 (m : Int)) = BitVec.ofNat 64 m := BitVec.ofInt_natCast 64 m
 have e2 : (BitVec.ofInt 64 (n : Int)) = BitVec.ofNat 64 n := BitVec.ofInt_natCast 64 n
 have e3 : BitVec.ofNat 64 m &&& ~~~ (BitVec.ofNat 64 n) = BitVec.ofNat 64 m ^^^ (BitVec.ofNat 64 m &&& BitVec.ofNat 64 n) := by
  ext i hi
  simp
  cases (BitVec.ofNat 64 m)[i] <;> cases (BitVec.ofNat 64 n)[i] <;> rfl
 rw [e1,e2,e3,BitVec.toNat_xor,BitVec.toNat_and,BitVec.toNat_ofNat,BitVec.toNat_ofNat,Nat.mod_eq_of_lt (by omega),Nat.mod_eq_of_lt (by omega)]
 simp only [Int.toNat_natCast,natAndNot]
 have h3 : m &&& n ≤ m := Nat.and_le_left
 have : m ^^^ (m &&& n) < 2 ^ 63 := Nat.xor_lt_two_pow (by omega) (by omega)
 refine wrap_in _ _ ⟨?_,?_⟩
 ·simp [IntKind.min,IntKind.signed,IntKind.bits] <;> omega
 ·simp [IntKind.max,IntKind.signed,IntKind.bits]; omega
/-! ### What stands for what -/
section
variable {com : Nat → Nat} {w : World}
theorem rep_int {k : IntKind} {n : Int} {v : Value} (h : Rep com w (.int k n) v) : v = .int k n := by cases h; rfl
theorem rep_bool {b : Bool} {v : Value} (h : Rep com w (.bool b) v) : v = .bool b := by cases h; rfl
theorem rep_str {s : ByteArray} {v : Value} (h : Rep com w (.str s) v) : v = .string s := by cases h; rfl
theorem rep_agg {l : List AV} {v : Value} (h : Rep com w (.agg l) v) : ∃ vs : List Value,v = .agg vs.toArray ∧ Reps com w l vs := by
 cases h with | agg _ vs hl h => exact ⟨vs,rfl,hl,h⟩
theorem rep_tuple {l : List AV} {v : Value} (h : Rep com w (.tuple l) v) : ∃ vs : List Value,v = .tuple vs.toArray ∧ Reps com w l vs := by
 cases h with | tuple _ vs hl h => exact ⟨vs,rfl,hl,h⟩
theorem rep_nilundef {v : Value} (h : Rep com w (.tuple []) v) : v = undef := by
 obtain ⟨vs,rfl,h1,_⟩ := rep_tuple h
 cases vs with
 | nil => rfl
 | cons => simp at h1
theorem rep_fn {f : Fn} {first caps : List AV} {v : Value} (h : Rep com w (.fn f first caps) v) : ∃ fs cs : List Value,v = .func f fs.toArray cs.toArray ∧ Reps com w first fs ∧ Reps com w caps cs := by
 cases h with | fn _ _ _ fs cs h1 h2 h3 h4 => exact ⟨fs,cs,rfl,⟨h1,h3⟩,⟨h2,h4⟩⟩
theorem rep_eptr {l : List AV} {v : Value} (h : Rep com w (.eptr l) v) : ∃ b off,∃ vs : Nat → Value,v = .pointer (some ⟨b,off,none⟩) ∧ off + l.length ≤ com b ∧
  (∀ i,i < l.length → w.cell? ⟨b,off + i,none⟩ = some (vs i)) ∧ ∀ (j : Nat) (x : AV),l[j]? = some x → Rep com w x (vs j) := by
 cases h with | eptr _ b off vs h1 h2 h3 => exact ⟨b,off,vs,rfl,h1,h2,h3⟩
theorem rep_slice {sz : Nat} {l : List AV} {v : Value} (h : Rep com w (.slice sz l) v) : (l = [] ∧ (v = .slice none 0 0 ∨ ∃ a cap,v = .slice (some a) 0 cap ∧ cap ≤ maxLen)) ∨
  ∃ b off cap,∃ vs : Nat → Value,v = .slice (some ⟨b,off,none⟩) l.length cap ∧ (∀ e ∈ l,e.cells.length = sz ∧ e.cells.all flat = true) ∧ l.length ≤ cap ∧ cap ≤ maxLen ∧ off + l.length * sz ≤ com b ∧
   (∀ i,i < l.length * sz → w.cell? ⟨b,off + i,none⟩ = some (vs i)) ∧
   ∀ (k : Nat) (e : AV) (j : Nat) (x : AV),l[k]? = some e → e.cells[j]? = some x → Rep com w x (vs (k * sz + j)) := by
 cases h with
 | nilslice => exact .inl ⟨rfl,.inl rfl⟩
 | emptyslice _ a cap hm => exact .inl ⟨rfl,.inr ⟨a,cap,rfl,hm⟩⟩
 | slice _ _ b off cap vs h1 h2 h3 h4 h5 h6 => exact .inr ⟨b,off,cap,vs,rfl,h1,h2,h3,h4,h5,h6⟩
theorem rep_ptr {b off : Nat} {v : Value} (h : Rep com w (.ptr b off) v) : v = .pointer (some ⟨b,off,none⟩) := by cases h; rfl
theorem rep_mslice {b off len cap : Nat} {v : Value} (h : Rep com w (.mslice b off len cap) v) : v = .slice (some ⟨b,off,none⟩) len cap ∨ (len = 0 ∧ cap = 0 ∧ v = .slice none 0 0) := by
 cases h
 ·exact .inl rfl
 ·exact .inr ⟨rfl,rfl,rfl⟩
theorem rep_mslice_pos {b off len cap : Nat} {v : Value} (h : Rep com w (.mslice b off len cap) v) (hp : 0 < len ∨ 0 < cap) : v = .slice (some ⟨b,off,none⟩) len cap := by
 rcases rep_mslice h with e | ⟨rfl,rfl,_⟩
 ·exact e
 ·omega
theorem Reps.nil : Reps com w [] [] := ⟨rfl,fun i x v h => by simp at h⟩
theorem Reps.cons {x : AV} {xs : List AV} {v : Value} {vs : List Value} (h : Rep com w x v) (hs : Reps com w xs vs) : Reps com w (x :: xs) (v :: vs) := by
 refine ⟨by simp [hs.1],fun i y u hy hu => ?_⟩
 cases i with
 | zero => simp at hy hu; subst hy; subst hu; exact h
 | succ i => simp at hy hu; exact hs.2 i y u hy hu
theorem Reps.cons_inv {x : AV} {xs : List AV} {vs : List Value} (h : Reps com w (x :: xs) vs) : ∃ v vs',vs = v :: vs' ∧ Rep com w x v ∧ Reps com w xs vs' := by
 obtain ⟨h1,h2⟩ := h
 cases vs with
 | nil => simp at h1
 | cons v vs => exact ⟨v,vs,rfl,h2 0 x v rfl rfl,by simpa using h1,fun i y u hy hu => h2 (i + 1) y u (by simpa using hy) (by simpa using hu)⟩
theorem Reps.nil_inv {vs : List Value} (h : Reps com w [] vs) : vs = [] := by
 have := h.1
 cases vs with
 | nil => rfl
 | cons => simp at this
theorem Reps.append {xs ys : List AV} {vs us : List Value} (h : Reps com w xs vs) (k : Reps com w ys us) : Reps com w (xs ++ ys) (vs ++ us) := by
 refine ⟨by simp [h.1,k.1],fun i x v hx hv => ?_⟩
 by_cases hi : i < xs.length
 ·rw [List.getElem?_append_left hi] at hx
  rw [List.getElem?_append_left (by rw [← h.1]; exact hi)] at hv
  exact h.2 i x v hx hv
 ·rw [List.getElem?_append_right (by omega)] at hx
  rw [List.getElem?_append_right (by rw [← h.1]; omega)] at hv
  exact k.2 (i - xs.length) x v hx (by rw [h.1]; exact hv)
theorem Reps.drop {xs : List AV} {vs : List Value} (h : Reps com w xs vs) (n : Nat) : Reps com w (xs.drop n) (vs.drop n) :=
 ⟨by simp [h.1],fun i x v hx hv => h.2 (n + i) x v (by simpa using hx) (by simpa using hv)⟩
theorem Reps.take {xs : List AV} {vs : List Value} (h : Reps com w xs vs) (n : Nat) : Reps com w (xs.take n) (vs.take n) := by
 refine ⟨by simp [h.1],fun i x v hx hv => ?_⟩
 rw [List.getElem?_take] at hx hv
 by_cases hi : i < n
 ·rw [if_pos hi] at hx hv; exact h.2 i x v hx hv
 ·rw [if_neg hi] at hx; simp at hx
theorem rep_cells {x : AV} {v : Value} (h : Rep com w x v) (hk : known x = true) : Reps com w x.cells v.cells.toList := by
 cases h with
 | top => simp [known] at hk
 | agg l vs hl h => show Reps com w l vs.toArray.toList; exact ⟨hl,h⟩
 | bool b => exact Reps.cons (.bool b) .nil
 | int k n => exact Reps.cons (.int k n) .nil
 | str s => exact Reps.cons (.str s) .nil
 | tuple l vs hl h => exact Reps.cons (.tuple l vs hl h) .nil
 | nilslice sz => exact Reps.cons (.nilslice sz) .nil
 | emptyslice sz a cap hm => exact Reps.cons (.emptyslice sz a cap hm) .nil
 | slice sz l b off cap vs h1 h2 h3 h4 h5 h6 => exact Reps.cons (.slice sz l b off cap vs h1 h2 h3 h4 h5 h6) .nil
 | eptr l b off vs h1 h2 h3 => exact Reps.cons (.eptr l b off vs h1 h2 h3) .nil
 | nilptr => exact Reps.cons .nilptr .nil
 | nilfunc => exact Reps.cons .nilfunc .nil
 | fn f first caps fs cs h1 h2 h3 h4 => exact Reps.cons (.fn f first caps fs cs h1 h2 h3 h4) .nil
 | ptr b off => exact Reps.cons (.ptr b off) .nil
 | mslice b off len cap => exact Reps.cons (.mslice b off len cap) .nil
 | nilm b off => exact Reps.cons (.nilm b off) .nil
 | map b => exact Reps.cons (.map b) .nil
 | nilmap => exact Reps.cons .nilmap .nil
end
theorem flat_plain {com : Nat → Nat} {w : World} {x : AV} {v : Value} (h : Rep com w x v) (hf : flat x = true) : ∀ (cs : Array Value),v ≠ .agg cs ∧ v ≠ .tuple cs := by
 intro cs
 cases h <;> simp [flat] at hf ⊢
/-! ### The operations that compute -/
section
variable {E : Env} {G : Gh} {w : World} {β : Nat → Nat} {R : Nat → Role} {a : Act} {st : St}
theorem srep_v {com : Nat → Nat} {x : AV} {v : Value} (h : SRep com w β (.v x) v) : Rep com w x v := h
theorem vcInts_sound {op : BinOp} {k : IntKind} {m n : Int} {K : AV → Prop} (h : vcInts op k m n K) (P : Program) (t : TypeId) (x y : Operand) :
  ∃ r v,K r ∧ (∀ com w,Rep com w r v) ∧ (do eqGuard op t x y (.int k m) (.int k n); binOp op t (.int k m) (.int k n)).run P w = .ok v w := by
 cases op <;> simp only [vcInts] at h
 case add => exact ⟨_,_,h.2,fun _ _ => .int _ _,by simp [eqGuard,binOp,go_sem,Op.intArith,wrap_in k _ h.1]⟩
 case sub => exact ⟨_,_,h.2,fun _ _ => .int _ _,by simp [eqGuard,binOp,go_sem,Op.intArith,wrap_in k _ h.1]⟩
 case mul => exact ⟨_,_,h.2,fun _ _ => .int _ _,by simp [eqGuard,binOp,go_sem,Op.intArith,wrap_in k _ h.1]⟩
 case quo =>
  obtain ⟨⟨h1,h2,h3⟩,hk⟩ := h
  have e : n ≠ 0 := by omega
  have e2 : m.tdiv n = m / n := Int.tdiv_eq_ediv_of_nonneg h1
  have e3 : inR k (m / n) := by
   have := Int.ediv_le_self n h1
   have h0 : 0 ≤ m / n := Int.ediv_nonneg h1 (by omega)
   have hm : k.min ≤ 0 := by cases k <;> simp [IntKind.min,IntKind.signed,IntKind.bits]
   exact ⟨by omega,Int.le_trans this h3.2⟩
  exact ⟨_,_,hk,fun _ _ => .int _ _,by simp [eqGuard,binOp,Op.intDiv,e,e2,wrap_in k _ e3]⟩
 case rem =>
  obtain ⟨⟨h1,h2⟩,hk⟩ := h
  have e : n ≠ 0 := by omega
  have e2 : m.tmod n = m % n := Int.tmod_eq_emod_of_nonneg h1
  exact ⟨_,_,hk,fun _ _ => .int _ _,by simp [eqGuard,binOp,Op.intDiv,e,e2]⟩
 case and =>
  obtain ⟨⟨h1,h2⟩,hk⟩ := h
  unfold smallK at h1 h2
  split at h1
  ·exact ⟨_,_,hk,fun _ _ => .int _ _,by rw [← bits_and _ _ h1 h2]; rfl⟩
  ·exact ⟨_,_,hk,fun _ _ => .int _ _,by rw [← bits_and8 _ _ h1 h2]; rfl⟩
  ·exact h1.elim
 case or =>
  obtain ⟨⟨h1,h2⟩,hk⟩ := h
  unfold smallK at h1 h2
  split at h1
  ·exact ⟨_,_,hk,fun _ _ => .int _ _,by rw [← bits_or _ _ h1 h2]; rfl⟩
  ·exact ⟨_,_,hk,fun _ _ => .int _ _,by rw [← bits_or8 _ _ h1 h2]; rfl⟩
  ·exact h1.elim
 case andNot => obtain ⟨rfl,⟨h1,h2⟩,hk⟩ := h; exact ⟨_,_,hk,fun _ _ => .int _ _,by rw [← bits_andNot _ _ h1 h2]; rfl⟩
 case eql => exact ⟨_,_,h,fun _ _ => .bool _,by simp [eqGuard,binOp,Op.intCmp]; by_cases e : m = n <;> simp [e]⟩
 case neq => exact ⟨_,_,h,fun _ _ => .bool _,by simp [eqGuard,binOp,Op.intCmp]; by_cases e : m = n <;> simp [e]⟩
 case lss => exact ⟨_,_,h,fun _ _ => .bool _,by simp [eqGuard,binOp,Op.intCmp]⟩
 case leq => exact ⟨_,_,h,fun _ _ => .bool _,by simp [eqGuard,binOp,Op.intCmp]⟩
 case gtr => exact ⟨_,_,h,fun _ _ => .bool _,by simp [eqGuard,binOp,Op.intCmp]⟩
 case geq => exact ⟨_,_,h,fun _ _ => .bool _,by simp [eqGuard,binOp,Op.intCmp]⟩
theorem vcShift_sound {op : BinOp} {k k' : IntKind} {m n : Int} {K : AV → Prop} (h : vcShift op k m n K) (P : Program) (t : TypeId) (x y : Operand) :
  ∃ r v,K r ∧ (∀ com w,Rep com w r v) ∧ (do eqGuard op t x y (.int k m) (.int k' n); binOp op t (.int k m) (.int k' n)).run P w = .ok v w := by
 cases op <;> simp only [vcShift] at h
 case shl =>
  obtain ⟨⟨h1,h2,h3⟩,hk⟩ := h
  have e1 : ¬ n < 0 := by omega
  have e2' : min n.toNat k.bits = n.toNat := by omega
  exact ⟨_,_,hk,fun _ _ => .int _ _,by simp [eqGuard,binOp,Op.shift,e1,e2',wrap_in k _ h3]⟩
 case shr =>
  obtain ⟨⟨h1,h2,h3⟩,hk⟩ := h
  have e1 : ¬ n < 0 := by omega
  have e2' : min n.toNat k.bits = n.toNat := by omega
  have e3 : m.fdiv (2 ^ n.toNat) = m / 2 ^ n.toNat := by
   rw [Int.fdiv_eq_ediv_of_nonneg _ (Int.pow_nonneg (by omega))]
  exact ⟨_,_,hk,fun _ _ => .int _ _,by simp [eqGuard,binOp,Op.shift,e1,e2',e3]⟩
theorem toList_inj {a b : ByteArray} (h : a.toList = b.toList) : a = b := by
 rw [ByteArray.toList_eq,ByteArray.toList_eq] at h
 exact WideShapes.bytes_inj h
theorem run_und {E : Env} (hE : EnvOk E) {t : TypeId} {i : TyI} (ht : E.T t = some i) : ∃ d,descOk i.d d ∧ E.P.underlying t = some d ∧ ∀ w,(underlying t).run E.P w = .ok d w := by
 obtain ⟨d,h1,h2⟩ := (hE t i ht).desc
 exact ⟨d,h2,h1,run_underlying h1⟩
theorem run_equal_bool {P : Program} {t : TypeId} (h : ∀ w,(underlying t).run P w = .ok .bool w) (a b : Bool) (w : World) : (Op.equal t (.bool a) (.bool b)).run P w = .ok (a == b) w := by
 show (Op.equalIn (9999 + 1) t (.bool a) (.bool b)).run P w = _
 unfold Op.equalIn
 simp only [Sem.run_bind,h,Result.andThen_ok,Sem.run_pure]
theorem vcBin_sound (hE : EnvOk E) {op : BinOp} {t : TypeId} {x y : SV} {K : AV → Prop} (h : vcBin E op t x y K) {u v : Value} (hx : SRep G.com w β x u) (hy : SRep G.com w β y v) (ox oy : Operand) :
  ∃ r z,K r ∧ Rep G.com w r z ∧ (do eqGuard op t ox oy u v; binOp op t u v).run E.P w = .ok z w := by
 unfold vcBin at h
 split at h
 ·rename_i k m k' n
  rw [rep_int (srep_v hx),rep_int (srep_v hy)]
  split at h
  ·obtain ⟨r,z,h1,h2,h3⟩ := vcShift_sound h E.P t ox oy
   exact ⟨r,z,h1,h2 _ _,h3⟩
  ·obtain ⟨rfl,h⟩ := h
   obtain ⟨r,z,h1,h2,h3⟩ := vcInts_sound h E.P t ox oy
   exact ⟨r,z,h1,h2 _ _,h3⟩
 ·rename_i s s'
  rw [rep_str (srep_v hx),rep_str (srep_v hy)]
  split at h
  ·refine ⟨_,_,h,.bool _,?_⟩
   by_cases e : s = s'
   ·subst e; simp [eqGuard,binOp,Op.stringOp]
   ·have : ¬ s.toList = s'.toList := fun h => e (toList_inj h)
    simp [eqGuard,binOp,Op.stringOp,e,this]
  ·refine ⟨_,_,h,.bool _,?_⟩
   by_cases e : s = s'
   ·subst e; simp [eqGuard,binOp,Op.stringOp]
   ·have : ¬ s.toList = s'.toList := fun h => e (toList_inj h)
    simp [eqGuard,binOp,Op.stringOp,e,this]
  ·obtain ⟨h1,h⟩ := h
   refine ⟨_,_,h,.str _,?_⟩
   have h2 : (s.size : Int) + (s'.size : Int) ≤ 9223372036854775807 := by unfold maxLen at h1; omega
   simp [eqGuard,binOp,Op.stringOp,IntKind.max,IntKind.signed,IntKind.bits,h2]
  ·exact h.elim
 ·rename_i b b'
  rw [rep_bool (srep_v hx),rep_bool (srep_v hy)]
  split at h
  ·rename_i hT
   obtain ⟨d,hd,hu,hr⟩ := run_und hE hT
   cases d <;> simp only [descOk] at hd
   refine ⟨_,_,h,.bool _,?_⟩
   simp only [eqGuard,binOp,Sem.run_bind,run_equal_bool hr,Result.andThen_ok]
   cases b <;> cases b' <;> rfl
  ·rename_i hT
   obtain ⟨d,hd,hu,hr⟩ := run_und hE hT
   cases d <;> simp only [descOk] at hd
   refine ⟨_,_,h,.bool _,?_⟩
   simp only [eqGuard,binOp,Sem.run_bind,run_equal_bool hr,Result.andThen_ok]
   cases b <;> cases b' <;> rfl
  ·exact h.elim
 ·rename_i l l'
  obtain ⟨vs,rfl,hvs⟩ := rep_agg (srep_v hx)
  obtain ⟨vs',rfl,hvs'⟩ := rep_agg (srep_v hy)
  unfold vcEqAgg at h
  split at h
  ·rename_i r hr
   exact ⟨_,_,h.2,.bool _,(h.1 vs vs' G.com w ox oy hvs hvs').1⟩
  ·rename_i r hr
   exact ⟨_,_,h.2,.bool _,(h.1 vs vs' G.com w ox oy hvs hvs').2⟩
  ·exact h.elim
 ·exact h.elim
theorem vcUn_sound {op : UnOp} {x : SV} {K : AV → Prop} (h : vcUn op x K) {v : Value} (hx : SRep G.com w β x v) (P : Program) :
  ∃ r z,K r ∧ Rep G.com w r z ∧ (Op.unary op v).run P w = .ok z w := by
 unfold vcUn at h
 split at h
 ·rw [rep_bool (srep_v hx)]; exact ⟨_,_,h,.bool _,by simp [Op.unary]⟩
 ·rw [rep_int (srep_v hx)]; exact ⟨_,_,h.2,.int _ _,by simp [Op.unary,Op.intArith]; rw [wrap_in _ _ (by simpa using h.1)]⟩
 ·exact h.elim
theorem vcConvert_sound (hE : EnvOk E) {s d : TypeId} {x : SV} {K : AV → Prop} (h : vcConvert E s d x K) {v : Value} (hx : SRep G.com w β x v) : ∃ r z,K r ∧ Rep G.com w r z ∧ (convert s d v).run E.P w = .ok z w := by
 unfold vcConvert at h
 split at h
 ·rename_i k m i k' sz by' z hs hT
  rw [rep_int (srep_v hx)]
  obtain ⟨dd,hd,hu,hr⟩ := run_und hE hT
  obtain ⟨ds,hds,hus,hrs⟩ := run_und hE hs
  cases dd <;> simp only [descOk] at hd
  subst hd
  refine ⟨_,_,h.2,.int _ _,?_⟩
  simp only [convert,Sem.run_bind,hr,hrs,Result.andThen_ok]
  cases ds <;> simp [Conv.intToInt,wrap_in _ _ h.1]
 ·exact h.elim
theorem vcFrom_sound {t : TypeId} {l : List AV} {K : AV → Prop} (h : vcFrom (E.T t) l K) :
  ∃ i,E.T t = some i ∧ ((i.agg = true ∧ i.size ≤ l.length ∧ K (.agg (l.take i.size))) ∨ (i.agg = false ∧ ∃ x r,l = x :: r ∧ K x)) := by
 unfold vcFrom at h
 split at h
 ·exact h.elim
 ·rename_i i hi
  refine ⟨i,hi,?_⟩
  split at h
  ·rename_i ha; exact .inl ⟨ha,h⟩
  ·rename_i ha
   split at h
   ·exact .inr ⟨by simpa using ha,_,_,rfl,h⟩
   ·exact h.elim
theorem loadCellsFrom_run {P : Program} {w : World} {b off : Nat} {vs : Nat → Value} : ∀ (n i : Nat) (acc : Array Value),(∀ j,i ≤ j → j < i + n → w.cell? ⟨b,off + j,none⟩ = some (vs j)) →
  (loadCellsFrom ⟨b,off,none⟩ i n acc).run P w = .ok (acc ++ ((List.range' i n).map vs).toArray) w
 | 0,i,acc,_ => by simp [loadCellsFrom]
 | n + 1,i,acc,h => by
  have h0 := h i (Nat.le_refl _) (by omega)
  have ha : (Addr.add ⟨b,off,none⟩ i) = ⟨b,off + i,none⟩ := by
   unfold Addr.add; split
   ·rename_i e; subst e; rfl
   ·rfl
  have hl : (load (Addr.add ⟨b,off,none⟩ i)).run P w = .ok (vs i) w := by
   rw [ha]; simp [load,Sem.run,h0]
  simp only [loadCellsFrom,Sem.run_bind,hl,Result.andThen_ok]
  rw [loadCellsFrom_run n (i + 1) _ (fun j h1 h2 => h j (by omega) (by omega))]
  simp [List.range'_succ]
theorem loadCells_run {P : Program} {w : World} {b off : Nat} {vs : Nat → Value} (n : Nat) (h : ∀ j,j < n → w.cell? ⟨b,off + j,none⟩ = some (vs j)) :
  (loadCells ⟨b,off,none⟩ n).run P w = .ok ((List.range n).map vs).toArray w := by
 unfold loadCells
 rw [loadCellsFrom_run n 0 #[] (fun j _ h2 => h j (by omega))]
 simp [List.range_eq_range']
theorem loadVar_sound (hE : EnvOk E) {t : TypeId} {l : List AV} {K : AV → Prop} (h : vcFrom (E.T t) l K) {com : Nat → Nat} {b off : Nat} {vs : Nat → Value}
  (hw : ∀ i,i < l.length → w.cell? ⟨b,off + i,none⟩ = some (vs i)) (hr : ∀ (j : Nat) (x : AV),l[j]? = some x → Rep com w x (vs j)) :
  ∃ r z,K r ∧ Rep com w r z ∧ (loadVar t ⟨b,off,none⟩).run E.P w = .ok z w := by
 obtain ⟨i,hi,h⟩ := vcFrom_sound h
 have ha := (hE t i hi).agg w
 have hs := (hE t i hi).size w
 rcases h with ⟨h1,h2,h3⟩ | ⟨h1,x,r,rfl,h3⟩
 ·refine ⟨_,.agg ((List.range i.size).map vs).toArray,h3,.agg _ _ (by simp; omega) (fun j x v hx hv => ?_),?_⟩
  ·rw [List.getElem?_take] at hx
   by_cases hj : j < i.size
   ·rw [if_pos hj] at hx
    simp [hj] at hv
    rw [← hv]; exact hr j x hx
   ·rw [if_neg hj] at hx; simp at hx
  ·simp only [loadVar,Sem.run_bind,ha,h1,Result.andThen_ok,if_true,hs,loadCells_run i.size (fun j hj => hw j (by omega)),Sem.run_pure]
 ·refine ⟨_,vs 0,h3,hr 0 x rfl,?_⟩
  have h0 := hw 0 (by simp)
  simp only [Nat.add_zero] at h0
  simp [loadVar,Sem.run_bind,ha,h1,Result.andThen_ok,load,Sem.run,h0]
end
end Go.Proofs.YtdmejgfcaacdoaaGreat.Abs
/- The abstract machine,part 5: new blocks,writes to blocks of one's own,draws: what stays. -/
namespace Go.Proofs.YtdmejgfcaacdoaaGreat.Abs
set_option linter.unusedSimpArgs false
open Go Go.RowKit
def Gh.setCom (G : Gh) (b n : Nat) : Gh := { G with com := upd G.com b n }
section
variable {G : Gh} {w : World}
theorem Inv.com_lt (hi : Inv G w) {b : Nat} (h : G.com b ≠ 0) : b < w.heap.size := by
 obtain ⟨cs,e,fz,h1,_⟩ := hi.com b h
 exact (Array.getElem?_eq_some_iff.1 h1).1
theorem Inv.com_new (hi : Inv G w) {b : Nat} (h : w.heap.size ≤ b) : G.com b = 0 := by
 rcases Nat.eq_zero_or_pos (G.com b) with h0 | h0
 ·exact h0
 ·have := hi.com_lt (b := b) (by omega); omega
theorem heap_alloc_old (w : World) (o : Obj) {b : Nat} (h : b ≠ w.heap.size) : (w.alloc o).heap[b]? = w.heap[b]? := by
 show (w.heap.push o)[b]? = _
 rw [Array.getElem?_push,if_neg h]
theorem heap_alloc_new (w : World) (o : Obj) : (w.alloc o).heap[w.heap.size]? = some o := by
 show (w.heap.push o)[w.heap.size]? = some o
 simp
theorem alloc_grow (hi : Inv G w) (o : Obj) (c : Nat) (hc : c ≠ 0 → ∃ cs e fz,o = .cells cs e fz ∧ c ≤ cs.size) :
  Ext G w (G.setCom w.heap.size c) (w.alloc o) ∧ Inv (G.setCom w.heap.size c) (w.alloc o) := by
 have h0 : G.com w.heap.size = 0 := hi.com_new (Nat.le_refl _)
 refine ⟨⟨rfl,rfl,by simp,fun b => ?_,fun b i h => ?_,fun b hb => ?_⟩,⟨hi.below.alloc hi.below.size _,fun b hb => ?_,fun b hb => ?_⟩⟩
 ·by_cases e : b = w.heap.size
  ·subst e; rw [h0]; exact Nat.zero_le _
  ·simp [Gh.setCom,upd_ne _ _ e]
 ·have e : b ≠ w.heap.size := by rintro rfl; omega
  exact World.cell?_of_block (w := w) (heap_alloc_old w o e)
 ·have := hi.lock b hb
  have e : b ≠ w.heap.size := by omega
  exact ⟨heap_alloc_old w o e,by simp [Gh.setCom,upd_ne _ _ e]⟩
 ·by_cases e : b = w.heap.size
  ·subst e
   simp only [Gh.setCom,upd_same] at hb ⊢
   obtain ⟨cs,el,fz,rfl,h⟩ := hc hb
   exact ⟨cs,el,fz,heap_alloc_new w _,h⟩
  ·simp only [Gh.setCom,upd_ne _ _ e] at hb ⊢
   obtain ⟨cs,el,fz,h1,h2⟩ := hi.com b hb
   exact ⟨cs,el,fz,(heap_alloc_old w o e).trans h1,h2⟩
 ·have := hi.lock b hb; simp; omega
theorem drew_grow (hi : Inv G w) : Ext G w G w.drew ∧ Inv G w.drew :=
 ⟨⟨rfl,rfl,Nat.le_refl _,fun _ => Nat.le_refl _,fun _ _ _ => rfl,fun _ _ => ⟨rfl,rfl⟩⟩,⟨hi.below.drew,hi.com,hi.lock⟩⟩
def _root_.Go.World.setBlock' (w : World) (b : Nat) (o : Obj) : World := { w with heap := w.heap.setIfInBounds b o }
theorem heap_setBlock' (w : World) (b : Nat) (o : Obj) {k : Nat} (h : k ≠ b) : (w.setBlock' b o).heap[k]? = w.heap[k]? := by
 have h' : b ≠ k := fun e => h e.symm
 simp [World.setBlock',Array.getElem?_setIfInBounds_ne h']
theorem heap_setBlock'_same (w : World) (b : Nat) (o : Obj) (h : b < w.heap.size) : (w.setBlock' b o).heap[b]? = some o := by
 simp [World.setBlock',h]
theorem write_grow (hi : Inv G w) {b c : Nat} {o : Obj} (hb : G.W0.heap.size ≤ b) (hlt : b < w.heap.size) (hl : ¬ G.lock b) (hc : G.com b ≤ c)
  (ho : c ≠ 0 → ∃ cs e fz,o = .cells cs e fz ∧ c ≤ cs.size) (hk : ∀ i,i < G.com b → (w.setBlock' b o).cell? ⟨b,i,none⟩ = w.cell? ⟨b,i,none⟩) :
  Ext G w (G.setCom b c) (w.setBlock' b o) ∧ Inv (G.setCom b c) (w.setBlock' b o) := by
 refine ⟨⟨rfl,rfl,by simp [World.setBlock'],fun k => ?_,fun k i h => ?_,fun k hk' => ?_⟩,⟨?_,fun k hk' => ?_,fun k hk' => ?_⟩⟩
 ·by_cases e : k = b
  ·subst e; simpa [Gh.setCom,upd_same] using hc
  ·simp [Gh.setCom,upd_ne _ _ e]
 ·by_cases e : k = b
  ·subst e; exact hk i h
  ·exact World.cell?_of_block (w := w) (heap_setBlock' w b o e)
 ·have e : k ≠ b := by rintro rfl; exact hl hk'
  exact ⟨heap_setBlock' w b o e,by simp [Gh.setCom,upd_ne _ _ e]⟩
 ·exact hi.below.trans ⟨rfl,rfl,rfl,by simp [World.setBlock'],fun k hk' => heap_setBlock' w b o (by have : k < G.W0.heap.size := hk'; omega)⟩
 ·by_cases e : k = b
  ·subst e
   simp only [Gh.setCom,upd_same] at hk' ⊢
   obtain ⟨cs,el,fz,rfl,h⟩ := ho hk'
   exact ⟨cs,el,fz,heap_setBlock'_same w _ _ hlt,h⟩
  ·simp only [Gh.setCom,upd_ne _ _ e] at hk' ⊢
   obtain ⟨cs,el,fz,h1,h2⟩ := hi.com k hk'
   exact ⟨cs,el,fz,(heap_setBlock' w b o e).trans h1,h2⟩
 ·have := hi.lock k hk'; simpa [World.setBlock'] using this
end
/-! ### Cells written -/
def writeAt (cs : List Value) (o : Nat) (vs : List Value) : List Value := cs.take o ++ vs ++ cs.drop (o + vs.length)
theorem writeAt_length (cs : List Value) (o : Nat) (vs : List Value) (h : o + vs.length ≤ cs.length) : (writeAt cs o vs).length = cs.length := by
 simp [writeAt]; omega
theorem writeAt_get (cs : List Value) (o : Nat) (vs : List Value) (h : o + vs.length ≤ cs.length) (i : Nat) :
  (writeAt cs o vs)[i]? = if o ≤ i ∧ i < o + vs.length then vs[i - o]? else cs[i]? := by
 unfold writeAt
 by_cases h1 : i < o
 ·rw [if_neg (by omega),List.append_assoc,List.getElem?_append_left (by simp; omega),List.getElem?_take,if_pos h1]
 ·by_cases h2 : i < o + vs.length
  ·rw [if_pos ⟨by omega,h2⟩,List.append_assoc,List.getElem?_append_right (by simp; omega),List.getElem?_append_left (by simp; omega)]
   congr 1; simp; omega
  ·rw [if_neg (by omega),List.getElem?_append_right (by simp; omega),List.getElem?_drop]
   congr 1; simp; omega
def plainV : Value → Bool
 | .agg _ | .tuple _ => false
 | _ => true
theorem addr_add (b off i : Nat) : (Addr.add ⟨b,off,none⟩ i) = ⟨b,off + i,none⟩ := by
 unfold Addr.add; split
 ·rename_i e; subst e; rfl
 ·rfl
theorem setCell_block {w : World} {b o : Nat} {cs : List Value} {e : TypeId} {fz : Nat × Nat} (hb : w.heap[b]? = some (.cells cs.toArray e fz)) (ho : o < cs.length) (v : Value) :
  w.setCell ⟨b,o,none⟩ v = w.setBlock' b (.cells (writeAt cs o [v]).toArray e fz) := by
 have hlt := (Array.getElem?_eq_some_iff.1 hb).1
 have hval := (Array.getElem?_eq_some_iff.1 hb).2
 unfold World.setCell World.setBlock'
 congr 1
 apply Array.ext_getElem?
 intro k
 rw [Array.getElem?_modify]
 by_cases hk : b = k
 ·subst hk
  rw [if_pos rfl,hb]
  simp only [Option.map_some,Option.isSome_none,Bool.false_eq_true,if_false,Array.getElem?_setIfInBounds_self,hlt,if_true]
  congr 2
  have hset : cs.toArray.setIfInBounds o v = (cs.set o v).toArray := by simp
  rw [hset]
  congr 1
  apply List.ext_getElem?
  intro i
  rw [writeAt_get _ _ _ (by simp; omega),List.getElem?_set]
  by_cases hi : o = i
  ·subst hi; simp [ho]
  ·rw [if_neg hi,if_neg (by simp; omega)]
 ·rw [if_neg hk,Array.getElem?_setIfInBounds_ne hk]
theorem cell_block {w : World} {b : Nat} {cs : List Value} {e : TypeId} {fz : Nat × Nat} (hb : w.heap[b]? = some (.cells cs.toArray e fz)) (i : Nat) :
  w.cell? ⟨b,i,none⟩ = cs[i]? := by
 simp [World.cell?,hb]
theorem writeAt_writeAt (cs : List Value) (o : Nat) (v : Value) (vs : List Value) (h : o + 1 + vs.length ≤ cs.length) :
  writeAt (writeAt cs o [v]) (o + 1) vs = writeAt cs o (v :: vs) := by
 apply List.ext_getElem?
 intro i
 have hl : (writeAt cs o [v]).length = cs.length := writeAt_length _ _ _ (by simp; omega)
 rw [writeAt_get _ _ _ (by rw [hl]; omega),writeAt_get cs o (v :: vs) (by simp; omega),writeAt_get cs o [v] (by simp; omega)]
 by_cases h1 : i = o
 ·subst h1; rw [if_neg (by omega),if_pos (by simp),if_pos (by simp)]; simp
 ·by_cases h2 : o + 1 ≤ i ∧ i < o + 1 + vs.length
  ·rw [if_pos h2,if_pos (by simp; omega)]
   have : i - o = (i - (o + 1)) + 1 := by omega
   rw [this]; simp
  ·rw [if_neg h2,if_neg (by simp; omega),if_neg (by simp; omega)]
theorem setBlock'_setBlock' (w : World) (b : Nat) (o o' : Obj) : (w.setBlock' b o).setBlock' b o' = w.setBlock' b o' := by
 unfold World.setBlock'
 congr 1
 apply Array.ext_getElem?
 intro k
 by_cases hk : b = k
 ·subst hk; simp
 ·simp [Array.getElem?_setIfInBounds_ne hk]
theorem storeCells_run {P : Program} {b off : Nat} {e : TypeId} : ∀ (vs : List Value) (i : Nat) (w : World) (cs : List Value),w.heap[b]? = some (.cells cs.toArray e (0,0)) →
  off + i + vs.length ≤ cs.length → (∀ v ∈ vs,plainV v = true) →
  (storeCells ⟨b,off,none⟩ vs i).run P w = .ok () (w.setBlock' b (.cells (writeAt cs (off + i) vs).toArray e (0,0)))
 | [],i,w,cs,hb,_,_ => by
  have e1 : writeAt cs (off + i) [] = cs := by
   apply List.ext_getElem?; intro k
   unfold writeAt; simp
  have hlt := (Array.getElem?_eq_some_iff.1 hb).1
  have e2 : w.setBlock' b (.cells cs.toArray e (0,0)) = w := by
   unfold World.setBlock'
   have : w.heap.setIfInBounds b (.cells cs.toArray e (0,0)) = w.heap := by
    apply Array.ext_getElem?
    intro k
    by_cases hk : b = k
    ·subst hk; simp [hlt]; rw [← (Array.getElem?_eq_some_iff.1 hb).2]
    ·simp [Array.getElem?_setIfInBounds_ne hk]
   rw [this]
  simp [storeCells,e1,e2]
 | v :: vs,i,w,cs,hb,hl,hp => by
  have hv := hp v (by simp)
  simp only [List.length_cons] at hl
  have hc : w.cell? ⟨b,off + i,none⟩ = some cs[off + i] := by rw [cell_block hb]; simp
  have hf : w.frozen? ⟨b,off + i,none⟩ = false := by simp [World.frozen?,hb]
  have h1 : (store (Addr.add ⟨b,off,none⟩ i) v).run P w = .ok () (w.setBlock' b (.cells (writeAt cs (off + i) [v]).toArray e (0,0))) := by
   rw [addr_add,← setCell_block hb (by omega)]
   cases v <;> first | (simp [plainV] at hv; done) | simp [store,Sem.run,hc,hf]
  have hlt := (Array.getElem?_eq_some_iff.1 hb).1
  have hb' : (w.setBlock' b (.cells (writeAt cs (off + i) [v]).toArray e (0,0))).heap[b]? = some (.cells (writeAt cs (off + i) [v]).toArray e (0,0)) := heap_setBlock'_same _ _ _ hlt
  have hlen : (writeAt cs (off + i) [v]).length = cs.length := writeAt_length _ _ _ (by simp; omega)
  simp only [storeCells,Sem.run_bind,h1,Result.andThen_ok]
  rw [storeCells_run vs (i + 1) _ _ hb' (by rw [hlen]; omega) (fun u hu => hp u (by simp [hu])),setBlock'_setBlock',← Nat.add_assoc,writeAt_writeAt _ _ _ _ (by omega)]
end Go.Proofs.YtdmejgfcaacdoaaGreat.Abs
/- The abstract machine,part 6: operations on memory: what they yield and leave is what 'ev' says. -/
namespace Go.Proofs.YtdmejgfcaacdoaaGreat.Abs
set_option linter.unusedSimpArgs false
open Go Go.RowKit
section
variable {E : Env} {G : Gh} {w : World} {β : Nat → Nat} {R : Nat → Role} {a : Act} {st : St}
theorem vcPick_sound {c x y : SV} {K : SV → Prop} (h : vcPick c x y K) {vc vx vy : Value} (hc : SRep G.com w β c vc) (hx : SRep G.com w β x vx) (hy : SRep G.com w β y vy)
  (hrx : ∀ i,x.refs i → st.loc i ≠ none) (hry : ∀ i,y.refs i → st.loc i ≠ none) (P : Program) :
  ∃ r z,K r ∧ SRep G.com w β r z ∧ (∀ i,r.refs i → st.loc i ≠ none) ∧ (do pure (if ← asBool vc then vx else vy) : Sem Value).run P w = .ok z w := by
 unfold vcPick at h
 split at h
 ·rename_i t
  rw [rep_bool (srep_v hc)]
  cases t
  ·exact ⟨y,vy,by simpa using h,hy,hry,by simp [asBool]⟩
  ·exact ⟨x,vx,by simpa using h,hx,hrx,by simp [asBool]⟩
 ·exact h.elim
theorem vcLoad_sound (hE : EnvOk E) (hf : FRelB G w β R a st) {t : TypeId} {x : SV} {K : AV → Prop} (h : vcLoad E t x st.loc st.mem K) {v : Value} (hx : SRep G.com w β x v) :
  ∃ r z,K r ∧ Rep G.com w r z ∧ (Instr.loadAt t v).run E.P w = .ok z w := by
 have row : ∀ (b : Nat) (l : List AV) (off : Nat),BoxRep G.com w b (.cells l) → vcFrom (E.T t) (l.drop off) K →
   ∃ r z,K r ∧ Rep G.com w r z ∧ (loadVar t ⟨b,off,none⟩).run E.P w = .ok z w := by
  intro b l off ⟨cs,e,hb,hr⟩ h
  refine loadVar_sound hE h (vs := fun i => cs.getD (off + i) undef) (fun i hi => ?_) (fun j y hj => ?_)
  ·rw [cell_block hb]
   have : off + i < cs.length := by rw [← hr.1]; simp at hi; omega
   simp [this]
  ·rw [List.getElem?_drop] at hj
   have hj' : off + j < cs.length := by rw [← hr.1]; exact (List.getElem?_eq_some_iff.1 hj).1
   exact hr.2 (off + j) y _ hj (by simp [hj'])
 unfold vcLoad at h
 split at h
 ·obtain ⟨b,off,vs,rfl,h1,h2,h3⟩ := rep_eptr (srep_v hx)
  obtain ⟨r,z,hk,hr,hrun⟩ := loadVar_sound hE h h2 h3
  exact ⟨r,z,hk,hr,by simpa [Instr.loadAt,Instr.sureAddr] using hrun⟩
 ·rename_i i off
  split at h
  ·rename_i l hl
   obtain ⟨⟨_,_,_,hb⟩,_⟩ := hf.loc i l hl
   obtain ⟨r,z,hk,hr,hrun⟩ := row _ l off hb h
   have e : v = .pointer (some ⟨β i,off,none⟩) := hx
   subst e
   exact ⟨r,z,hk,hr,by simpa [Instr.loadAt,Instr.sureAddr] using hrun⟩
  ·exact h.elim
 ·rename_i b off
  split at h
  ·rename_i l hl
   obtain ⟨_,_,_,_,hb⟩ := hf.mem b _ hl
   obtain ⟨r,z,hk,hr,hrun⟩ := row _ l off hb h
   rw [rep_ptr (srep_v hx)]
   exact ⟨r,z,hk,hr,by simpa [Instr.loadAt,Instr.sureAddr] using hrun⟩
  ·exact h.elim
 ·exact h.elim
theorem vcNil_sound {x : SV} {K : SV → Prop} (h : vcNil x K) {v : Value} (hx : SRep G.com w β x v) :
  K x ∧ ((∃ p,v = .pointer (some p)) ∨ ∃ f fs cs,v = .func (.func f) fs cs) := by
 unfold vcNil at h
 split at h
 ·obtain ⟨b,off,vs,rfl,_⟩ := rep_eptr (srep_v hx); exact ⟨h,.inl ⟨_,rfl⟩⟩
 ·exact ⟨h,.inl ⟨_,hx⟩⟩
 ·exact ⟨h,.inl ⟨_,rep_ptr (srep_v hx)⟩⟩
 ·obtain ⟨fs,cs,rfl,_⟩ := rep_fn (srep_v hx); exact ⟨h,.inr ⟨_,_,_,rfl⟩⟩
 ·exact h.elim
theorem fieldOf_sound (hE : EnvOk E) {s : TypeId} {f off : Nat} {i : TyI} (h : fieldOf E.T s f = some (off,i)) :
  ∃ (fields : Array Field) (fd : Field),(∀ w,(underlying s).run E.P w = .ok (.struct fields) w) ∧ fields[f]? = some fd ∧ fd.offset = off ∧ (∃ ft,E.T ft = some i ∧ fd.type = ft) := by
 unfold fieldOf at h
 split at h
 ·rename_i fs sz by' z hT
  obtain ⟨d,hd,hu,hr⟩ := run_und hE hT
  cases d <;> simp only [descOk] at hd
  rename_i fields
  subst hd
  split at h
  ·rename_i off' t hft
   split at h
   ·rename_i i' hi
    simp only [Option.some.injEq,Prod.mk.injEq] at h
    obtain ⟨rfl,rfl⟩ := h
    rw [List.getElem?_map] at hft
    cases hfd : fields.toList[f]? with
    | none => rw [hfd] at hft; simp at hft
    | some fd =>
     rw [hfd] at hft
     simp only [Option.map_some,Option.some.injEq,Prod.mk.injEq] at hft
     exact ⟨fields,fd,hr,by simpa using hfd,hft.1,t,hi,hft.2⟩
   ·simp at h
  ·simp at h
 ·simp at h
theorem vcFieldAddr_sound (hE : EnvOk E) {s : TypeId} {x : SV} {f : Nat} {K : SV → Prop} (h : vcFieldAddr E s x f K) {v : Value} (hx : SRep G.com w β x v)
  (hrx : ∀ i,x.refs i → st.loc i ≠ none) :
  ∃ r z,K r ∧ SRep G.com w β r z ∧ (∀ i,r.refs i → st.loc i ≠ none) ∧ (Instr.fieldAt s v f).run E.P w = .ok z w := by
 unfold vcFieldAddr at h
 split at h
 ·exact h.elim
 ·rename_i off i hfo
  obtain ⟨hsz,h⟩ := h
  obtain ⟨fields,fd,hr,hfd,rfl,ft,hft,rfl⟩ := fieldOf_sound hE hfo
  have hs := (hE _ _ hft).size w
  have run : ∀ b o,(Instr.fieldAt s (.pointer (some ⟨b,o,none⟩)) f).run E.P w = .ok (.pointer (some ⟨b,o + fd.offset,none⟩)) w := by
   intro b o
   simp [Instr.fieldAt,Sem.run_bind,hr,Instr.sureAddr,hfd,fieldPlace,hs,hsz,addr_add]
  split at h
  ·rename_i l
   obtain ⟨b,o,vs,rfl,h1,h2,h3⟩ := rep_eptr (srep_v hx)
   refine ⟨_,_,h.2,.eptr _ b (o + fd.offset) (fun i => vs (fd.offset + i)) (by simp; omega) (fun i hi => ?_) (fun j y hj => ?_),fun i hi => hi.elim,run b o⟩
   ·rw [Nat.add_assoc]; exact h2 _ (by simp at hi; omega)
   ·rw [List.getElem?_drop] at hj; exact h3 _ y hj
  ·rename_i j o
   have e : v = .pointer (some ⟨β j,o,none⟩) := hx
   subst e
   exact ⟨_,_,h,rfl,fun i hi => hrx i hi,run _ _⟩
  ·rename_i b o
   rw [rep_ptr (srep_v hx)]
   exact ⟨_,_,h,.ptr _ _,fun i hi => hi.elim,run _ _⟩
  ·exact h.elim
theorem part_sound (hE : EnvOk E) {t : TypeId} {l : List AV} {off : Nat} {K : AV → Prop} (h : vcFrom (E.T t) (l.drop off) K) {vs : List Value} {com : Nat → Nat} (hr : Reps com w l vs) :
  ∃ r z,K r ∧ Rep com w r z ∧ (part t vs.toArray off).run E.P w = .ok z w := by
 obtain ⟨i,hi,h⟩ := vcFrom_sound h
 have ha := (hE t i hi).agg w
 have hs := (hE t i hi).size w
 have hlen := hr.1
 rcases h with ⟨h1,h2,h3⟩ | ⟨h1,x,r,he,h3⟩
 ·refine ⟨_,.agg ((vs.drop off).take i.size).toArray,h3,?_,?_⟩
  ·obtain ⟨k1,k2⟩ := (hr.drop off).take i.size
   exact .agg _ _ k1 k2
  ·simp only [part,Sem.run_bind,ha,h1,Result.andThen_ok,if_true,hs,Sem.run_pure]
   congr 2
   simp [List.take_drop]
 ·have hx : l[off]? = some x := by
   have := congrArg (fun l : List AV => l[0]?) he
   simpa using this
  have ho : off < vs.length := by rw [← hlen]; exact (List.getElem?_eq_some_iff.1 hx).1
  refine ⟨_,vs[off],h3,hr.2 off x _ hx (by simp),?_⟩
  simp [part,Sem.run_bind,ha,h1,Result.andThen_ok,ho]
theorem vcField_sound (hE : EnvOk E) {s : TypeId} {x : SV} {f : Nat} {K : AV → Prop} (h : vcField E s x f K) {v : Value} (hx : SRep G.com w β x v) :
  ∃ r z,K r ∧ Rep G.com w r z ∧ (Instr.field s v f).run E.P w = .ok z w := by
 unfold vcField at h
 split at h
 ·exact h.elim
 ·rename_i off i hfo
  obtain ⟨fields,fd,hr,hfd,rfl,ft,hft,rfl⟩ := fieldOf_sound hE hfo
  split at h
  ·rename_i l
   obtain ⟨vs,rfl,hvs⟩ := rep_agg (srep_v hx)
   rw [← hft] at h
   obtain ⟨r,z,hk,hz,hrun⟩ := part_sound hE h hvs
   exact ⟨r,z,hk,hz,by simp only [Instr.field,Sem.run_bind,hr,Result.andThen_ok,hfd,asAgg,Sem.run_pure,hrun]⟩
  ·exact h.elim
theorem mem_cells_len {l : List AV} {sz k : Nat} {e : AV} (hs : ∀ e ∈ l,e.cells.length = sz ∧ e.cells.all flat = true) (hk : l[k]? = some e) : e.cells.length = sz :=
 (hs e (List.mem_of_getElem? hk)).1
theorem vcIndexAddr_sound (hE : EnvOk E) {t : TypeId} {x i : SV} {K : SV → Prop} (h : vcIndexAddr E t x i K) {v u : Value} (hx : SRep G.com w β x v) (hi : SRep G.com w β i u)
  (hrx : ∀ i,x.refs i → st.loc i ≠ none) :
  ∃ r z,K r ∧ SRep G.com w β r z ∧ (∀ i,r.refs i → st.loc i ≠ none) ∧ (Instr.indexAt t v u).run E.P w = .ok z w := by
 unfold vcIndexAddr at h
 split at h
 ·rename_i k n
  rw [rep_int (srep_v hi)]
  split at h
  ·rename_i e sz by' z hT
   obtain ⟨d,hd,hu,hr⟩ := run_und hE hT
   cases d <;> simp only [descOk] at hd
   subst hd
   split at h
   ·exact h.elim
   ·rename_i ei hTe
    have hs := (hE _ _ hTe).size w
    have run : ∀ b o len cap,0 ≤ n → n.toNat < len → (Instr.indexAt t (.slice (some ⟨b,o,none⟩) len cap) (.int k n)).run E.P w = .ok (.pointer (some ⟨b,o + n.toNat * ei.size,none⟩)) w := by
     intro b o len cap h0 hlt
     have h1 : n < (len : Int) := by omega
     simp [Instr.indexAt,asIntOf,Sem.run_bind,hr,h0,h1,hs,addr_add]
    split at h
    ·rename_i sz' l
     obtain ⟨rfl,e,he,h0,hk⟩ := h
     have hlt : n.toNat < l.length := (List.getElem?_eq_some_iff.1 he).1
     rcases rep_slice (srep_v hx) with ⟨rfl,_⟩ | ⟨b,o,cap,vs,rfl,h1,h2,h3,h4,h5,h6⟩
     ·simp at he
     have hc : e.cells.length = ei.size := mem_cells_len h1 he
     have hm : (n.toNat + 1) * ei.size ≤ l.length * ei.size := Nat.mul_le_mul_right _ hlt
     rw [Nat.add_mul,Nat.one_mul] at hm
     refine ⟨_,_,hk,.eptr _ b (o + n.toNat * ei.size) (fun j => vs (n.toNat * ei.size + j)) (by omega) (fun j hj => ?_) (fun j y hj => ?_),fun i hi => hi.elim,run b o _ cap h0 hlt⟩
     ·rw [Nat.add_assoc]; exact h5 _ (by omega)
     ·exact h6 _ e j y he hj
    ·rename_i j off len cap
     obtain ⟨h1,o',rfl,ho⟩ := hx
     have e1 : o' = off := ho.resolve_right (by omega)
     subst e1
     exact ⟨_,_,h.2,rfl,fun i hi => hrx i hi,run _ _ _ _ h.1.1 h.1.2⟩
    ·rename_i b off len cap
     rw [rep_mslice_pos (srep_v hx) (.inl (by have := h.1.2; omega))]
     exact ⟨_,_,h.2,.ptr _ _,fun i hi => hi.elim,run _ _ _ _ h.1.1 h.1.2⟩
    ·exact h.elim
  ·rename_i len e sz by' z hT
   obtain ⟨d,hd,hu,hr⟩ := run_und hE hT
   cases d <;> simp only [descOk] at hd
   obtain ⟨rfl,rfl⟩ := hd
   split at h
   ·exact h.elim
   ·rename_i ei hTe
    have hs := (hE _ _ hTe).size w
    obtain ⟨⟨h0,hlt⟩,h⟩ := h
    have run : ∀ b o,(Instr.indexAt t (.pointer (some ⟨b,o,none⟩)) (.int k n)).run E.P w = .ok (.pointer (some ⟨b,o + n.toNat * ei.size,none⟩)) w := by
     intro b o
     have h1 : n < (len : Int) := by omega
     simp [Instr.indexAt,asIntOf,Sem.run_bind,hr,Instr.sureAddr,h0,h1,hs,addr_add]
    split at h
    ·rename_i l
     obtain ⟨b,o,vs,rfl,h1,h2,h3⟩ := rep_eptr (srep_v hx)
     refine ⟨_,_,h.2,.eptr _ b (o + n.toNat * ei.size) (fun i => vs (n.toNat * ei.size + i)) (by simp; omega) (fun i hi => ?_) (fun j y hj => ?_),fun i hi => hi.elim,run b o⟩
     ·rw [Nat.add_assoc]; exact h2 _ (by simp at hi; omega)
     ·rw [List.getElem?_drop] at hj; exact h3 _ y hj
    ·rename_i j o
     have e : v = .pointer (some ⟨β j,o,none⟩) := hx
     subst e
     exact ⟨_,_,h,rfl,fun i hi => hrx i hi,run _ _⟩
    ·rename_i b o
     rw [rep_ptr (srep_v hx)]
     exact ⟨_,_,h,.ptr _ _,fun i hi => hi.elim,run _ _⟩
    ·exact h.elim
  ·exact h.elim
 ·exact h.elim
theorem vcIndex_sound (hE : EnvOk E) {t : TypeId} {x i : SV} {K : AV → Prop} (h : vcIndex E t x i K) {v u : Value} (hx : SRep G.com w β x v) (hi : SRep G.com w β i u) :
  ∃ r z,K r ∧ Rep G.com w r z ∧ (Instr.index t v u).run E.P w = .ok z w := by
 unfold vcIndex at h
 split at h
 ·rename_i k n
  rw [rep_int (srep_v hi)]
  split at h
  ·rename_i s sz by' z hT
   obtain ⟨d,hd,hu,hr⟩ := run_und hE hT
   cases d <;> simp only [descOk] at hd
   rw [rep_str (srep_v hx)]
   obtain ⟨⟨h0,hlt⟩,h⟩ := h
   refine ⟨_,_,h,.int _ _,?_⟩
   have e1 : s[n.toNat]? = some s[n.toNat] := getElem?_pos s n.toNat hlt
   simp only [Instr.index,asIntOf,Sem.run_bind,Sem.run_pure,Result.andThen_ok,hr,h0,if_true,e1]
   have : s.data.toList.getD n.toNat 0 = s[n.toNat] := by
    have hl : n.toNat < s.data.toList.length := by simpa using hlt
    rw [List.getD_eq_getElem?_getD,List.getElem?_eq_getElem hl]; rfl
   rw [this]
  ·rename_i l len e sz by' z hT
   obtain ⟨d,hd,hu,hr⟩ := run_und hE hT
   cases d <;> simp only [descOk] at hd
   obtain ⟨rfl,rfl⟩ := hd
   split at h
   ·exact h.elim
   ·rename_i ei hTe
    have hs := (hE _ _ hTe).size w
    obtain ⟨⟨h0,hlt⟩,h⟩ := h
    obtain ⟨vs,rfl,hvs⟩ := rep_agg (srep_v hx)
    rw [← hTe] at h
    obtain ⟨r,z,hk,hz,hrun⟩ := part_sound hE h hvs
    have h1 : n < (len : Int) := by omega
    exact ⟨r,z,hk,hz,by simp only [Instr.index,asIntOf,Sem.run_bind,Sem.run_pure,Result.andThen_ok,hr,h0,h1,and_self,if_true,hs,hrun]⟩
  ·exact h.elim
 ·exact h.elim
theorem vcExtract_sound {x : SV} {i : Nat} {K : AV → Prop} (h : vcExtract x i K) {v : Value} (hx : SRep G.com w β x v) (P : Program) :
  ∃ r z,K r ∧ Rep G.com w r z ∧ (Instr.extract v i).run P w = .ok z w := by
 unfold vcExtract at h
 split at h
 ·rename_i l
  obtain ⟨vs,rfl,hvs⟩ := rep_tuple (srep_v hx)
  split at h
  ·rename_i y hy
   have hi : i < vs.length := by rw [← hvs.1]; exact (List.getElem?_eq_some_iff.1 hy).1
   exact ⟨y,vs[i],h,hvs.2 i y _ hy (by simp),by simp [Instr.extract,hi]⟩
  ·exact h.elim
 ·exact h.elim
end
end Go.Proofs.YtdmejgfcaacdoaaGreat.Abs
/- The abstract machine,part 7: variables made and written,slices made and appended to. -/
namespace Go.Proofs.YtdmejgfcaacdoaaGreat.Abs
set_option linter.unusedSimpArgs false
open Go Go.RowKit
section
variable {E : Env} {G : Gh} {w : World} {β : Nat → Nat} {R : Nat → Role} {a : Act} {st : St}
theorem FRelB.step (h : FRelB G w β R a st) {G' : Gh} {w' : World} (hx : Ext G w G' w') {loc' : Nat → Option (List AV)} {mem' : Mem}
  (hA : ∀ b s,R b = .own s → w'.heap[b]? = w.heap[b]? ∧ G'.com b = G.com b)
  (hB : ∀ i l,loc' i = some l → LocB G' w' (β i) l ∧ R (β i) = .loc i)
  (hC : ∀ i,st.loc i ≠ none → loc' i ≠ none)
  (hD : MemRep G' w' mem') (hR : ∀ b x,mem' b = some x → R b = .mem) : FRelB G' w' β R a { st with loc := loc',mem := mem' } := by
 have hlk : ∀ b,G'.lock b ↔ G.lock b := fun b => by rw [hx.lock]
 refine ⟨h.defers.step hx,fun s => ?_,fun s hs => ?_,hB,fun s i hi => hC i (h.ref s i hi),hD,hR,fun b hb => Nat.lt_of_lt_of_le (h.rlt b hb) hx.size⟩
 ·have := h.vals s
  revert this
  show SRep _ _ _ (st.vals s) _ → SRep _ _ _ (st.vals s) _
  generalize st.vals s = x
  cases x with
  | v x => exact fun h => h.ext hx
  | loc i off => exact id
  | lslice i off len cap => exact id
 ·obtain ⟨sz,l,e,hv⟩ := h.own s hs
  refine ⟨sz,l,e,hv.imp id ?_⟩
  rintro ⟨b,len,cap,cs,el,h1,h2,h3,h4,h5,h6,h7,h8⟩
  obtain ⟨k1,k2⟩ := hA b s h8
  exact ⟨b,len,cap,cs,el,h1,by rw [hx.W0]; exact h2,by rw [hlk]; exact h3,by rw [k1]; exact h4,h5,h6,by rw [k2]; exact h7,h8⟩
theorem LocB.ext {G' : Gh} {w' : World} {b : Nat} {l : List AV} (h : LocB G w b l) (hx : Ext G w G' w') (hb : w'.heap[b]? = w.heap[b]?) (hc : G'.com b = G.com b) : LocB G' w' b l := by
 obtain ⟨h1,h2,h3,h4⟩ := h
 exact ⟨by rw [hx.W0]; exact h1,by rw [hx.lock]; exact h2,by rw [hc]; exact h3,h4.ext hx hb⟩
theorem MemRep.ext {G' : Gh} {w' : World} {m : Mem} (h : MemRep G w m) (hx : Ext G w G' w') (hk : ∀ b x,m b = some x → w'.heap[b]? = w.heap[b]? ∧ G'.com b = G.com b) : MemRep G' w' m := by
 intro b x hb
 obtain ⟨h1,h2,h3,h4,h5⟩ := h b x hb
 obtain ⟨k1,k2⟩ := hk b x hb
 exact ⟨by rw [hx.W0]; exact h1,Nat.lt_of_lt_of_le h2 hx.size,by rw [hx.lock]; exact h3,by rw [k2]; exact h4,h5.ext hx k1⟩
theorem setCom_zero (G : Gh) {b : Nat} (h : G.com b = 0) : G.setCom b 0 = G := by
 unfold Gh.setCom
 have : upd G.com b 0 = G.com := by
  funext k
  by_cases e : k = b
  ·subst e; rw [upd_same,h]
  ·rw [upd_ne _ _ e]
 rw [this]
theorem FRelB.alloc (h : FRelB G w β R a st) (hi : Inv G w) (o : Obj) (c : Nat) (hc : c ≠ 0 → ∃ cs e fz,o = .cells cs e fz ∧ c ≤ cs.size) :
  FRelB (G.setCom w.heap.size c) (w.alloc o) β R a st :=
 h.ext (alloc_grow hi o c hc).1 fun b hb => by
  have := h.rlt b hb
  have e : b ≠ w.heap.size := by omega
  exact ⟨heap_alloc_old w o e,by simp [Gh.setCom,upd_ne _ _ e]⟩
theorem FRelB.new (h : FRelB G w β R a st) (hi : Inv G w) {d : Tmp} (hd : d < a.tmps.size) (hl : st.loc d = none) {l : List AV} {cs : List Value} (hr : Reps G.com w l cs) (e : TypeId) (sl : Option Nat) :
  FRel G (w.alloc (.cells cs.toArray e (0,0))) (a.put (some d) (match sl with | none => .pointer (some ⟨w.heap.size,0,none⟩) | some n => .slice (some ⟨w.heap.size,0,none⟩) n n)) (st.eff (some d) (.new l sl)) := by
 have h0 : G.com w.heap.size = 0 := hi.com_new (Nat.le_refl _)
 obtain ⟨hx,hi'⟩ := alloc_grow hi (.cells cs.toArray e (0,0)) 0 (fun h => absurd rfl h)
 have hf := h.alloc hi (.cells cs.toArray e (0,0)) 0 (fun h => absurd rfl h)
 rw [setCom_zero G h0] at hx hi' hf
 have hfree : ∀ b,R b ≠ .free → b ≠ w.heap.size := fun b hb e => by have := h.rlt b hb; omega
 refine ⟨upd β d w.heap.size,upd R w.heap.size (.loc d),⟨by rw [put_defers]; exact hf.defers,fun s => ?_,fun s hs => ?_,fun i l' hl' => ?_,fun s i hs => ?_,hf.mem,fun b x hb => ?_,fun b hb => ?_⟩⟩
 ·rw [getD_put _ _ _ _ hd]
  by_cases es : s = d
  ·subst es
   simp only [if_true,St.eff,upd_same]
   cases sl with
   | none => show _ = _; rw [upd_same]
   | some n => exact ⟨Nat.le_refl _,0,by rw [upd_same],.inl rfl⟩
  ·simp only [es,if_false,St.eff,upd_ne _ _ es]
   have hv := hf.vals s
   have hrf := hf.ref s
   revert hv hrf
   generalize st.vals s = x
   cases x with
   | v x => exact fun h _ => h
   | loc i off =>
    intro h hr
    have : i ≠ d := by rintro rfl; exact hr i rfl hl
    show _ = _
    rw [upd_ne _ _ this]; exact h
   | lslice i off len cap =>
    intro ⟨h1,o',h2,h3⟩ hr
    have : i ≠ d := by rintro rfl; exact hr i rfl hl
    exact ⟨h1,o',by rw [upd_ne _ _ this]; exact h2,h3⟩
 ·rw [getD_put _ _ _ _ hd]
  by_cases es : s = d
  ·subst es; simp [St.eff,upd_same] at hs
  ·simp only [St.eff,upd_ne _ _ es] at hs ⊢
   simp only [es,if_false]
   obtain ⟨sz,l,e1,hv⟩ := hf.own s hs
   refine ⟨sz,l,e1,hv.imp id ?_⟩
   rintro ⟨b,len,cap,cs,el,h1,h2,h3,h4,h5,h6,h7,h8⟩
   exact ⟨b,len,cap,cs,el,h1,h2,h3,h4,h5,h6,h7,by rw [upd_ne _ _ (hfree b (by rw [h8]; simp))]; exact h8⟩
 ·by_cases ei : i = d
  ·subst ei
   simp only [St.eff,upd_same,Option.some.injEq] at hl'
   subst hl'
   rw [upd_same]
   refine ⟨⟨hi.below.size,?_,h0,cs,e,heap_alloc_new w _,hr.ext hx⟩,upd_same _ _ _⟩
   intro hlk
   exact absurd (hi.lock _ hlk) (Nat.lt_irrefl _)
  ·simp only [St.eff,upd_ne _ _ ei] at hl' ⊢
   obtain ⟨h1,h2⟩ := hf.loc i l' hl'
   exact ⟨h1,by rw [upd_ne _ _ (hfree _ (by rw [h2]; simp))]; exact h2⟩
 ·by_cases es : s = d
  ·subst es
   simp only [St.eff,upd_same] at hs
   have : i = s := by cases sl <;> exact hs.symm
   subst this
   simp [St.eff,upd_same]
  ·simp only [St.eff,upd_ne _ _ es] at hs ⊢
   by_cases ei : i = d
   ·subst ei; exact absurd hl (hf.ref s i hs)
   ·simp only [upd_ne _ _ ei]; exact hf.ref s i hs
 ·have h1 := hf.rmem b x hb
  rw [upd_ne _ _ (hfree b (by rw [h1]; simp))]; exact h1
 ·by_cases eb : b = w.heap.size
  ·subst eb; simp
  ·rw [upd_ne _ _ eb] at hb
   have := h.rlt b hb
   simp; omega
theorem FRelB.set (h : FRelB G w β R a st) (hi : Inv G w) {i : Nat} {l : List AV} (hl : st.loc i = some l) {cs : List Value} {e : TypeId} {l' : List AV} (hr : Reps G.com w l' cs) (dst : Option Tmp)
  (hd : ∀ t,dst = some t → t < a.tmps.size) :
  Ext G w G (w.setBlock' (β i) (.cells cs.toArray e (0,0))) ∧ Inv G (w.setBlock' (β i) (.cells cs.toArray e (0,0))) ∧
   FRelB G (w.setBlock' (β i) (.cells cs.toArray e (0,0))) β R (a.put dst undef) (st.eff dst (.set i l')) := by
 obtain ⟨⟨h1,h2,h3,h4⟩,h5⟩ := h.loc i l hl
 have hlt := h.rlt (β i) (by rw [h5]; simp)
 obtain ⟨hx,hi'⟩ := write_grow (c := 0) hi h1 hlt h2 (by omega) (fun h => absurd rfl h) (fun k hk => by omega) (o := .cells cs.toArray e (0,0))
 rw [setCom_zero G h3] at hx hi'
 refine ⟨hx,hi',?_⟩
 have key : ∀ b,R b ≠ .loc i → (w.setBlock' (β i) (.cells cs.toArray e (0,0))).heap[b]? = w.heap[b]? := fun b hb => by
  refine heap_setBlock' w _ _ ?_
  rintro rfl
  exact hb h5
 have hstep := h.step hx (loc' := upd st.loc i (some l')) (mem' := st.mem) (fun b s hb => ⟨key b (by rw [hb]; simp),rfl⟩) (fun j lj hj => ?_) (fun j hj => ?_)
  (h.mem.ext hx fun b x hb => ⟨key b (by rw [h.rmem b x hb]; simp),rfl⟩) h.rmem
 ·have hput := hstep.put (d := dst) (x := undefS) (v := undef) hd (rep_undef _ _) (fun j hj => hj.elim)
  cases dst <;> exact hput
 ·by_cases ej : j = i
  ·subst ej
   simp only [upd_same,Option.some.injEq] at hj
   subst hj
   exact ⟨⟨h1,h2,h3,cs,e,heap_setBlock'_same w _ _ hlt,hr.ext hx⟩,h5⟩
  ·simp only [upd_ne _ _ ej] at hj
   obtain ⟨k1,k2⟩ := h.loc j lj hj
   have kb : R (β j) ≠ .loc i := by rw [k2]; intro e; cases e; exact ej rfl
   exact ⟨k1.ext hx (key _ kb) rfl,k2⟩
 ·by_cases ej : j = i
  ·subst ej; simp [upd_same]
  ·simp only [upd_ne _ _ ej]; exact hj
theorem FRelB.mset (h : FRelB G w β R a st) (hi : Inv G w) {b : Nat} {x : Box} (hb : st.mem b = some x) {o : Obj} {y : Box} (ho : ∀ w',w'.heap[b]? = some o → Ext G w G w' → BoxRep G.com w' b y) (dst : Option Tmp)
  (hd : ∀ t,dst = some t → t < a.tmps.size) :
  Ext G w G (w.setBlock' b o) ∧ Inv G (w.setBlock' b o) ∧ FRelB G (w.setBlock' b o) β R (a.put dst undef) (st.eff dst (.mset b y)) := by
 obtain ⟨h1,hlt,h2,h3,h4⟩ := h.mem b x hb
 have h5 := h.rmem b x hb
 obtain ⟨hx,hi'⟩ := write_grow (c := 0) hi h1 hlt h2 (by omega) (fun h => absurd rfl h) (fun k hk => by omega) (o := o)
 rw [setCom_zero G h3] at hx hi'
 refine ⟨hx,hi',?_⟩
 have key : ∀ k,k ≠ b → (w.setBlock' b o).heap[k]? = w.heap[k]? := fun k hk => heap_setBlock' w _ _ hk
 have hstep := h.step hx (loc' := st.loc) (mem' := upd st.mem b (some y)) (fun k s hk => ⟨key k (by rintro rfl; rw [h5] at hk; cases hk),rfl⟩) (fun j lj hj => ?_) (fun j hj => hj) (fun k z hk => ?_) (fun k z hk => ?_)
 ·have hput := hstep.put (d := dst) (x := undefS) (v := undef) hd (rep_undef _ _) (fun j hj => hj.elim)
  cases dst <;> exact hput
 ·obtain ⟨k1,k2⟩ := h.loc j lj hj
  exact ⟨k1.ext hx (key _ (by intro e; rw [e,h5] at k2; cases k2)) rfl,k2⟩
 ·by_cases ek : k = b
  ·subst ek
   simp only [upd_same,Option.some.injEq] at hk
   subst hk
   exact ⟨h1,by simpa [World.setBlock'] using hlt,h2,h3,ho _ (heap_setBlock'_same w _ _ hlt) hx⟩
  ·simp only [upd_ne _ _ ek] at hk
   obtain ⟨m1,m2,m3,m4,m5⟩ := h.mem k z hk
   exact ⟨m1,by simpa [World.setBlock'] using m2,m3,m4,m5.ext hx (key _ ek)⟩
 ·by_cases ek : k = b
  ·subst ek; exact h5
  ·simp only [upd_ne _ _ ek] at hk; exact h.rmem k z hk
end
end Go.Proofs.YtdmejgfcaacdoaaGreat.Abs
/- The abstract machine,part 8: aggregates,slices written out,made,cut and appended to. -/
namespace Go.Proofs.YtdmejgfcaacdoaaGreat.Abs
set_option linter.unusedSimpArgs false
open Go Go.RowKit
section
variable {com : Nat → Nat} {w : World}
theorem Reps.overlay {l xs : List AV} {cs vs : List Value} (h : Reps com w l cs) (k : Reps com w xs vs) (off : Nat) : Reps com w (overlay l off xs) (writeAt cs off vs) := by
 unfold Abs.overlay writeAt
 rw [← k.1]
 exact ((h.take off).append k).append (h.drop _)
theorem foldl_writeAt : ∀ (vs : List Value) (n : Nat) (cells : Array Value) (off : Nat),off + n + vs.length ≤ cells.size →
  ((vs.zipIdx n).foldl (fun cs (c,j) => cs.setIfInBounds (off + j) c) cells) = (writeAt cells.toList (off + n) vs).toArray
 | [],n,cells,off,_ => by
  have : writeAt cells.toList (off + n) [] = cells.toList := by unfold writeAt; simp
  rw [this]; simp
 | v :: vs,n,cells,off,h => by
  simp only [List.length_cons] at h
  simp only [List.zipIdx_cons,List.foldl_cons]
  rw [foldl_writeAt vs (n + 1) _ off (by simp; omega)]
  have e : (cells.setIfInBounds (off + n) v).toList = writeAt cells.toList (off + n) [v] := by
   apply List.ext_getElem?
   intro i
   rw [writeAt_get _ _ _ (by simp; omega),Array.toList_setIfInBounds,List.getElem?_set]
   by_cases hi : off + n = i
   ·subst hi; simp; omega
   ·rw [if_neg hi,if_neg (by simp; omega)]
  rw [e,← Nat.add_assoc,writeAt_writeAt _ _ _ _ (by simp; omega)]
theorem fill_sound {place : Nat → Option (Nat × Nat)} {place' : Nat → Option (Nat × Nat)} (hpl : ∀ i p,place' i = some p → place i = some p) :
  ∀ (parts : List (Nat × SV)) (vals : List (Nat × Value)) (cells : List AV) (cs : Array Value) (l : List AV),
   parts.length = vals.length → (∀ (k i : Nat) (x : SV) (i' : Nat) (v : Value),parts[k]? = some (i,x) → vals[k]? = some (i',v) → i = i' ∧ ∀ y,x = .v y → Rep com w y v) →
   Reps com w cells cs.toList → buildFrom place' cells parts = some l → ∃ cs' : Array Value,Instr.fill place cs vals = some cs' ∧ Reps com w l cs'.toList
 | [],vals,cells,cs,l,hlen,_,hr,h => by
  cases vals with
  | cons => simp at hlen
  | nil =>
   simp only [buildFrom,Option.some.injEq] at h
   subst h
   exact ⟨cs,rfl,hr⟩
 | (i,x) :: parts,vals,cells,cs,l,hlen,hp,hr,h => by
  cases vals with
  | nil => simp at hlen
  | cons iv vals =>
   obtain ⟨i',v⟩ := iv
   obtain ⟨e,hx⟩ := hp 0 i x i' v rfl rfl
   subst e
   simp only [buildFrom] at h
   split at h
   ·rename_i off sz y hpi
    split at h
    ·rename_i hc
     obtain ⟨h1,h2,h3⟩ := hc
     have hy := rep_cells (hx y rfl) h1
     have hvs : v.cells.size = sz := by rw [← h2,hy.1]; simp
     have hlc : cells.length = cs.size := by simpa using hr.1
     have hfold := foldl_writeAt v.cells.toList 0 cs off (by simp [hvs]; omega)
     obtain ⟨cs',h4,h5⟩ := fill_sound hpl parts vals (Abs.overlay cells off y.cells) (writeAt cs.toList off v.cells.toList).toArray l (by simpa using hlen)
      (fun k i x i' v hk hv => hp (k + 1) i x i' v (by simpa using hk) (by simpa using hv)) (by simpa using hr.overlay hy off) h
     refine ⟨cs',?_,h5⟩
     simp only [Instr.fill,hpl _ _ hpi]
     rw [if_neg (by simp [hvs]; omega)]
     have : (v.cells.zipIdx.foldl (fun cs (x : Value × Nat) => cs.setIfInBounds (off + x.2) x.1) cs) = (writeAt cs.toList off v.cells.toList).toArray := by
      rw [← Array.foldl_toList,Array.toList_zipIdx]; simpa using hfold
     rw [this]; exact h4
    ·simp at h
   ·simp at h
theorem fieldPlaces {P : Program} : ∀ (fs : List Field) (places : List (Nat × Nat)),fs.mapM (fun f => (P.info? f.type).map fun i => (f.offset,i.size)) = some places →
  ∀ (k : Nat) (fd : Field),fs[k]? = some fd → ∃ i,P.info? fd.type = some i ∧ places[k]? = some (fd.offset,i.size)
 | [],places,_,k,fd,hk => by simp at hk
 | f :: fs,places,h,k,fd,hk => by
  simp only [List.mapM_cons,Option.bind_eq_bind,Option.pure_def] at h
  cases hi : P.info? f.type with
  | none => simp [hi] at h
  | some i =>
   cases hr : fs.mapM (fun f => (P.info? f.type).map fun i => (f.offset,i.size)) with
   | none => simp [hi,hr] at h
   | some rest =>
    simp [hi,hr] at h
    subst h
    cases k with
    | zero => simp at hk; subst hk; exact ⟨i,hi,rfl⟩
    | succ k => simp at hk; obtain ⟨i',h1,h2⟩ := fieldPlaces fs rest hr k fd hk; exact ⟨i',h1,by simpa using h2⟩
theorem TyOk.infoSize {P : Program} {t : TypeId} {i : TyI} (h : TyOk P t i) {f : TypeInfo} (hf : P.info? t = some f) : f.size = i.size := by
 obtain ⟨f',z,d,h1,h2,_⟩ := h.ex
 rw [hf] at h1; cases h1; exact h2
variable {E : Env}
theorem vcBuild_sound (hE : EnvOk E) {t : TypeId} {parts : List (Nat × SV)} {K : AV → Prop} (h : vcBuild E t parts K) {vals : Array (Nat × Value)} (hlen : parts.length = vals.toList.length)
  (hp : ∀ (k i : Nat) (x : SV) (i' : Nat) (v : Value),parts[k]? = some (i,x) → vals.toList[k]? = some (i',v) → i = i' ∧ ∀ y,x = .v y → Rep com w y v) :
  ∃ r z,K r ∧ Rep com w r z ∧ (Instr.build t vals).run E.P w = .ok z w := by
 unfold vcBuild at h
 split at h
 ·rename_i i hi
  obtain ⟨hagg,hkn,h⟩ := h
  have ok := hE t i hi
  obtain ⟨f,z,d,h1,h2,h3,h4,h5,h6,h7,h8⟩ := ok.ex
  cases hb : buildFrom (placeOf E.T i.d) i.zero parts with
  | none => rw [hb] at h; exact h.elim
  | some l =>
   rw [hb] at h
   have hz : Reps com w i.zero z.cells.toList := by rw [← ok.zc.1]; exact rep_cells (h7 com w) ok.zc.2.1
   rcases h8.1 hagg with ⟨fields,rfl⟩ | ⟨n,e,rfl⟩
   ·obtain ⟨places,hpl⟩ := ok.pl fields h5
    obtain ⟨cs',hf,hr⟩ := fill_sound (place := fun x => places.toArray[x]?) (place' := placeOf E.T i.d) (fun k p hk => by
     cases hd : i.d with
     | struct fs =>
      rw [hd] at hk h6
      simp only [descOk] at h6
      simp only [placeOf] at hk
      split at hk
      ·rename_i off ft hft
       split at hk
       ·rename_i fi hfi
        simp only [Option.some.injEq] at hk
        subst hk
        rw [← h6,List.getElem?_map] at hft
        cases hfd : fields.toList[k]? with
        | none => rw [hfd] at hft; simp at hft
        | some fd =>
         rw [hfd] at hft
         simp only [Option.map_some,Option.some.injEq,Prod.mk.injEq] at hft
         obtain ⟨ii,g1,g2⟩ := fieldPlaces _ _ hpl k fd hfd
         rw [hft.2] at g1
         rw [(hE _ _ hfi).infoSize g1,hft.1] at g2
         simpa using g2
       ·simp at hk
      ·simp at hk
     | _ => first | (rw [hd] at h6; exact h6.elim) | (rw [hd] at hk; simp [placeOf] at hk)) parts vals.toList i.zero z.cells l hlen hp hz hb
    refine ⟨.agg l,.agg cs',h,?_,run_build w t vals cs' ?_⟩
    ·have := Rep.agg l cs'.toList hr.1 hr.2; simpa using this
    ·unfold Program.built
     simp only [h1,h5,h4,hpl]
     exact hf
   ·cases hd : i.d with
    | array n' e' =>
     rw [hd] at h6 hb
     simp only [descOk] at h6
     obtain ⟨rfl,rfl⟩ := h6
     cases hTe : E.T e' with
     | none => rw [hd] at hkn; simp [arrKnown,hTe] at hkn
     | some ei =>
      obtain ⟨fe,_,_,g1,_⟩ := (hE _ _ hTe).ex
      have gs := (hE _ _ hTe).infoSize g1
      obtain ⟨cs',hf,hr⟩ := fill_sound (place := fun i => some (i * fe.size,fe.size)) (place' := placeOf E.T (.array n' e')) (fun k p hk => by
       simp only [placeOf,hTe] at hk
       split at hk
       ·rw [gs]; exact hk
       ·simp at hk) parts vals.toList i.zero z.cells l hlen hp hz hb
      refine ⟨.agg l,.agg cs',h,?_,run_build w t vals cs' ?_⟩
      ·have := Rep.agg l cs'.toList hr.1 hr.2; simpa using this
      ·unfold Program.built; simp only [h1,h5,h4,g1]; exact hf
    | _ => first | (rw [hd] at h6; exact h6.elim) | (simp [TyI.agg,hd] at hagg)
 ·exact h.elim
end
end Go.Proofs.YtdmejgfcaacdoaaGreat.Abs
