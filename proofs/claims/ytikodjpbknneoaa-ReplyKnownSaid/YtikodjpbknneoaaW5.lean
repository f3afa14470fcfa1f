/- Lemmas for the statements of this seat (W5): they hold without conditions beyond those that each one states. -/
import Derived.Test.YtikodjpbknneoaaW4
import Derived.Laws.RangeString
/- Contracts: numbers,lists of numbers. -/
namespace Go.Proofs.Ytikodjpbknneoaa.Abs
set_option linter.unusedSimpArgs false
open Go Go.RowKit Go.Proofs
set_option maxHeartbeats 4000000
set_option maxRecDepth 100000
def bitI (n : Int) (at_ : Int) : Bool := decide (n / 2 ^ at_.toNat % 2 = 1)
def lessL : List Int → List Int → Bool
 | _,[] => false
 | [],_ :: _ => true
 | x :: xs,y :: ys => if x = y then lessL xs ys else decide (x < y)
theorem less_c (a b : List Int) : PCall Try.prog 32 [ints a,ints b] (.bool (lessL a b)) := by
 intro m
 (refine acall_len Try.call32 fun hlen => ?_; refine acall_intro (E := env fun _ => .imm) (envOk _) rfl Try.func32 rfl Try.call32 (by kernel_rfl) (by simp [Try.ntmps32]) ?_; simp only [Try.f32];  simp(maxSteps:=9^9)only[↓VP,VQ,seval])
 simp only [ints,lenOk_cons,lenOk_nil,List.length_map,and_true,maxLen_eq] at hlen
 obtain ⟨hla,hlb⟩ := hlen
 refine aloop (envOk _) (fun k : Nat => ⟨[(0,.v (ints a)),(1,.v (ints b)),(5,.v (.int .i64 k))],[],[],m⟩) (fun k => k ≤ a.length ∧ k ≤ b.length ∧ lessL (a.drop k) (b.drop k) = lessL a b) (fun k => a.length - k) 0 (fun _ => rfl) (by simp) (by simp [Fits,fitsV,fitsO,fitsL,upd,ints]) ?_
 intro k hk
 simp(maxSteps:=9^9)only[↓VP,VQ,seval]
 (refine adraw (by first | exact envOk _ | exact envCOk _ _ _) mixed [⟨false,false,0⟩,⟨false,false,0⟩,⟨false,false,0⟩,⟨false,false,0⟩,⟨false,false,0⟩,⟨false,false,0⟩,⟨false,false,0⟩,⟨false,false,0⟩,⟨false,false,0⟩,⟨false,false,0⟩,⟨false,false,0⟩,⟨false,false,0⟩,⟨false,false,0⟩,⟨false,false,0⟩,⟨false,false,0⟩,⟨false,false,0⟩,⟨false,false,0⟩,⟨false,false,0⟩,⟨false,false,0⟩,⟨false,false,0⟩,⟨false,false,0⟩] (by kernel_rfl) ?_; show vcOpsD _ _ _ (_ :: _) _ _)
 simp(maxSteps:=9^9)only[↓VP,VQ,seval]
 repeat'(first|intro _|apply And.intro)
 all_goals try omega
 ·refine ⟨k + 1,⟨by omega,by omega,?_⟩,by dsimp only; omega,?_⟩
  ·obtain ⟨_,_,h⟩ := hk
   have h1 : k < a.length := by omega
   have h2 : k < b.length := by omega
   rw [← h,List.drop_eq_getElem_cons h1,List.drop_eq_getElem_cons h2]
   have : a[k] = b[k] := by simp_all
   simp [lessL,this]
  ·simp only [FE,↓FP,seval]
   simp
 ·obtain ⟨hk1,hk2,h⟩ := hk
  (refine adraw (by first | exact envOk _ | exact envCOk _ _ _) mixed [⟨false,false,0⟩,⟨false,false,0⟩,⟨false,false,0⟩,⟨false,false,0⟩,⟨false,false,0⟩,⟨false,false,0⟩,⟨false,false,0⟩,⟨false,false,0⟩,⟨false,false,0⟩,⟨false,false,0⟩,⟨false,false,0⟩,⟨false,false,0⟩,⟨false,false,0⟩,⟨false,false,0⟩,⟨false,false,0⟩,⟨false,false,0⟩] (by kernel_rfl) ?_; show vcOpsD _ _ _ (_ :: _) _ _)
  simp(maxSteps:=9^9)only[↓VP,VQ,seval]
  repeat'(first|intro _|apply And.intro)
  all_goals try omega
  have h1 : k < a.length := by omega
  have h2 : k < b.length := by omega
  rw [← h,List.drop_eq_getElem_cons h1,List.drop_eq_getElem_cons h2]
  have e1 : a[k]! = a[k] := getD_idx h1
  have e2 : b[k]! = b[k] := getD_idx h2
  simp_all [lessL]
 ·obtain ⟨hk1,hk2,h⟩ := hk
  rw [← h,List.drop_eq_nil_of_le (show b.length ≤ k by omega)]
  cases a.drop k <;> rfl
 ·obtain ⟨hk1,hk2,h⟩ := hk
  rw [← h,List.drop_eq_nil_of_le (show b.length ≤ k by omega)]
  cases a.drop k <;> rfl
 ·obtain ⟨hk1,hk2,h⟩ := hk
  (refine adraw (by first | exact envOk _ | exact envCOk _ _ _) mixed [⟨false,false,0⟩,⟨false,false,0⟩,⟨false,false,0⟩,⟨false,false,0⟩,⟨false,false,0⟩,⟨false,false,0⟩,⟨false,false,0⟩,⟨false,false,0⟩,⟨false,false,0⟩,⟨false,false,0⟩,⟨false,false,0⟩,⟨false,false,0⟩,⟨false,false,0⟩,⟨false,false,0⟩,⟨false,false,0⟩,⟨false,false,0⟩] (by kernel_rfl) ?_; show vcOpsD _ _ _ (_ :: _) _ _)
  simp(maxSteps:=9^9)only[↓VP,VQ,seval]
  repeat'(first|intro _|apply And.intro)
  all_goals try omega
  have h2 : k < b.length := by omega
  rw [← h,List.drop_eq_nil_of_le (show a.length ≤ k by omega),List.drop_eq_getElem_cons h2]
  rfl
theorem lessL_irrefl : ∀ a : List Int,lessL a a = false
 | [] => rfl
 | x :: xs => by simp [lessL,lessL_irrefl xs]
theorem lessL_total : ∀ a b : List Int,lessL a b = false → lessL b a = false → a = b
 | [],[],_,_ => rfl
 | [],_ :: _,h,_ => by simp [lessL] at h
 | _ :: _,[],_,h => by simp [lessL] at h
 | x :: xs,y :: ys,h,k => by
  simp only [lessL] at h k
  by_cases e : x = y
  ·subst e
   simp only [if_pos] at h k
   rw [lessL_total xs ys h k]
  ·have e' : ¬ y = x := fun h => e h.symm
   simp only [if_neg e,if_neg e',decide_eq_false_iff_not] at h k
   omega
theorem ints_c (a b : List Int) : PCall Try.prog 12 [ints a,ints b] (.bool (decide (a = b))) := by
 intro m
 (refine acall_intro (E := env fun _ => .imm) (envOk _) rfl Try.func12 rfl Try.call12 (by kernel_rfl) (by simp [Try.ntmps12]) ?_; simp only [Try.f12];  simp(maxSteps:=9^9)only[↓VP,VQ,seval])
 repeat'(first|intro _|apply And.intro)
 all_goals try (refine ACall.pure (less_c _ _) ?_; simp(maxSteps:=9^9)only[↓VP,VQ,seval]; repeat'(first|intro _|apply And.intro))
 all_goals try (refine ACall.pure (less_c _ _) ?_; simp(maxSteps:=9^9)only[↓VP,VQ,seval]; repeat'(first|intro _|apply And.intro))
 ·rename_i h
  congr 1
  by_cases e : a = b
  ·subst e; simp [lessL_irrefl]
  ·cases hb : lessL b a with
   | true => simp [e]
   | false => exact absurd (lessL_total a b h hb) e
 ·rename_i h
  have e : ¬ a = b := by rintro rfl; exact h (lessL_irrefl a)
  simp [e]
 ·rename_i h
  have e : ¬ a = b := by rintro rfl; exact h rfl
  simp [e]
def idxL {α : Type} (p : α → Bool) : List α → Int
 | [] => -1
 | x :: xs => if p x then 0 else if idxL p xs < 0 then -1 else idxL p xs + 1
theorem idxL_neg {α : Type} {p : α → Bool} : ∀ {l : List α},(∀ x ∈ l,p x = false) → idxL p l = -1
 | [],_ => rfl
 | x :: xs,h => by
  have h1 := h x (by simp)
  have h2 := idxL_neg (p := p) (l := xs) fun y hy => h y (by simp [hy])
  simp [idxL,h1,h2]
theorem idxL_at {α : Type} {p : α → Bool} : ∀ {l : List α} {k : Nat} (hk : k < l.length),(∀ x ∈ l.take k,p x = false) → p l[k] = true → idxL p l = k
 | [],k,hk,_,_ => by simp at hk
 | x :: xs,0,_,_,h => by simp at h; simp [idxL,h]
 | x :: xs,k + 1,hk,h,h' => by
  have h1 := h x (by simp)
  have h2 := idxL_at (p := p) (l := xs) (k := k) (by simpa using hk) (fun y hy => h y (by simp [hy])) (by simpa using h')
  simp [idxL,h1,h2]
  omega
theorem idxL_some {α : Type} {p : α → Bool} : ∀ {l : List α},(0 ≤ idxL p l) ↔ ∃ x ∈ l,p x = true
 | [] => by simp [idxL]
 | x :: xs => by
  have := idxL_some (p := p) (l := xs)
  by_cases hp : p x = true
  ·simp [idxL,hp]
  ·by_cases h : 0 ≤ idxL p xs
   ·have h2 := this.1 h
    have h' : ¬ idxL p xs < 0 := by omega
    simp [idxL,hp,h',h2]
    omega
   ·have h2 := mt this.2 h
    have h' : idxL p xs < 0 := by omega
    simp only [idxL,hp,h',if_true,if_false]
    constructor
    ·intro h; simp at h
    ·rintro ⟨y,hy,hp'⟩
     rcases List.mem_cons.1 hy with rfl | hy
     ·exact absurd hp' hp
     ·exact absurd ⟨y,hy,hp'⟩ h2
theorem idxL_any {α : Type} (p : α → Bool) (l : List α) : decide (0 ≤ idxL p l) = l.any p := by
 rw [Bool.eq_iff_iff]
 simp [idxL_some]
theorem forall_take_succ {α : Type} {p : α → Prop} {l : List α} {k : Nat} (h : k < l.length) (h1 : ∀ x ∈ l.take k,p x) (h2 : p l[k]) : ∀ x ∈ l.take (k + 1),p x := by
 intro x hx
 rw [List.take_succ_eq_append_getElem h,List.mem_append,List.mem_singleton] at hx
 rcases hx with hx | rfl
 ·exact h1 x hx
 ·exact h2
theorem indexInt_c (g : FuncId) (caps : List AV) (l : List Int) (p : Int → Bool) (h : ∀ x ∈ l,PCall Try.prog g ([.int .i64 x] ++ caps) (.bool (p x))) :
  PCall Try.prog 69 [ints l,.fn (.func g) [] caps] (.int .i64 (idxL p l)) := by
 intro m
 (refine acall_len Try.call69 fun hlen => ?_; refine acall_intro (E := env fun _ => .imm) (envOk _) rfl Try.func69 rfl Try.call69 (by kernel_rfl) (by simp [Try.ntmps69]) ?_; simp only [Try.f69];  simp(maxSteps:=9^9)only[↓VP,VQ,seval])
 simp only [ints,lenOk_cons,lenOk_nil,List.length_map,and_true,maxLen_eq] at hlen
 intro _
 refine aloop (envOk _) (fun k : Nat => ⟨[(0,.v (ints l)),(1,.v (.fn (.func g) [] caps)),(7,.v (.int .i64 l.length)),(8,.v (.int .i64 k))],[],[],m⟩) (fun k => k ≤ l.length ∧ ∀ x ∈ l.take k,p x = false) (fun k => l.length - k) 0 (fun _ => rfl) (by simp) (by simp [Fits,fitsV,fitsO,fitsL,upd,ints]) ?_
 intro k ⟨hk,hp⟩
 simp(maxSteps:=9^9)only[↓VP,VQ,seval]
 repeat'(first|intro _|apply And.intro)
 all_goals try omega
 ·have hlt : k < l.length := by omega
  have e1 : l[k]! = l[k] := getD_idx hlt
  have hc := h _ (List.getElem_mem hlt)
  rw [← e1] at hc
  refine ACall.pure hc ?_
  simp(maxSteps:=9^9)only[↓VP,VQ,seval]
  repeat'(first|intro _|apply And.intro)
  all_goals try omega
  ·rename_i hpx
   rw [idxL_at hlt hp (by rw [← e1]; exact hpx)]
  ·have hpx : ¬ p l[k]! = true := by assumption
   refine ⟨k + 1,⟨by omega,forall_take_succ hlt hp (by rw [← e1]; simpa using hpx)⟩,by dsimp only; omega,?_⟩
   simp only [FE,↓FP,seval]
   simp
 ·have : l.take k = l := List.take_of_length_le (by omega)
  rw [this] at hp
  rw [idxL_neg hp]
theorem containsInt_c (g : FuncId) (caps : List AV) (l : List Int) (p : Int → Bool) (h : ∀ x ∈ l,PCall Try.prog g ([.int .i64 x] ++ caps) (.bool (p x))) :
  PCall Try.prog 46 [ints l,.fn (.func g) [] caps] (.bool (l.any p)) := by
 intro m
 (refine acall_intro (E := env fun _ => .imm) (envOk _) rfl Try.func46 rfl Try.call46 (by kernel_rfl) (by simp [Try.ntmps46]) ?_; simp only [Try.f46];  simp(maxSteps:=9^9)only[↓VP,VQ,seval])
 repeat'(first|intro _|apply And.intro)
 refine ACall.pure (indexInt_c g caps l p h) ?_
 simp(maxSteps:=9^9)only[↓VP,VQ,seval]
 repeat'(first|intro _|apply And.intro)
 rw [idxL_any]
def offP (lo hi n : Int) : Bool := decide (n < lo ∨ hi < n)
theorem off1_c (n lo hi : Int) : PCall Try.prog 72 [.int .i64 n,.eptr [.int .i64 lo],.eptr [.int .i64 hi]] (.bool (offP lo hi n)) := by
 intro m
 (refine acall_intro (E := env fun _ => .imm) (envOk _) rfl Try.func72 rfl Try.call72 (by kernel_rfl) (by simp [Try.ntmps72]) ?_; simp only [Try.f72];  simp(maxSteps:=9^9)only[↓VP,VQ,seval])
 repeat'(first|intro _|apply And.intro)
 all_goals simp_all [offP]
 all_goals omega
theorem beyond1_c (n lo hi : Int) : PCall Try.prog 83 [.int .i64 n,.eptr [.int .i64 lo],.eptr [.int .i64 hi]] (.bool (offP lo hi n)) := by
 intro m
 (refine acall_intro (E := env fun _ => .imm) (envOk _) rfl Try.func83 rfl Try.call83 (by kernel_rfl) (by simp [Try.ntmps83]) ?_; simp only [Try.f83];  simp(maxSteps:=9^9)only[↓VP,VQ,seval])
 repeat'(first|intro _|apply And.intro)
 all_goals simp_all [offP]
 all_goals omega
theorem off_c (lo hi : Int) (l : List Int) : PCall Try.prog 53 [.int .i64 lo,.int .i64 hi,ints l] (.bool (l.any (offP lo hi))) := by
 intro m
 (refine acall_intro (E := env fun _ => .imm) (envOk _) rfl Try.func53 rfl Try.call53 (by kernel_rfl) (by simp [Try.ntmps53]) ?_; simp only [Try.f53];  simp(maxSteps:=9^9)only[↓VP,VQ,seval])
 repeat'(first|intro _|apply And.intro)
 refine ACall.pure (containsInt_c 72 _ l (offP lo hi) fun x _ => off1_c x lo hi) ?_
 simp(maxSteps:=9^9)only[↓VP,VQ,seval]
 repeat'(first|intro _|apply And.intro)
theorem beyond_c (lo hi : Int) (l : List Int) : PCall Try.prog 73 [.int .i64 lo,.int .i64 hi,ints l] (.bool (l.any (offP lo hi))) := by
 intro m
 (refine acall_intro (E := env fun _ => .imm) (envOk _) rfl Try.func73 rfl Try.call73 (by kernel_rfl) (by simp [Try.ntmps73]) ?_; simp only [Try.f73];  simp(maxSteps:=9^9)only[↓VP,VQ,seval])
 repeat'(first|intro _|apply And.intro)
 refine ACall.pure (containsInt_c 83 _ l (offP lo hi) fun x _ => beyond1_c x lo hi) ?_
 simp(maxSteps:=9^9)only[↓VP,VQ,seval]
 repeat'(first|intro _|apply And.intro)
def listTo (s n : Nat) : List Int := ((List.range n).filter s.testBit).map fun (i : Nat) => (i : Int)
theorem listTo_succ (s n : Nat) : listTo s (n + 1) = if s.testBit n then listTo s n ++ [(n : Int)] else listTo s n := by
 unfold listTo
 rw [List.range_succ,List.filter_append,List.map_append]
 by_cases h : s.testBit n <;> simp [h]
theorem listTo_length (s n : Nat) : (listTo s n).length ≤ n := by
 unfold listTo
 rw [List.length_map]
 exact Nat.le_trans (List.length_filter_le _ _) (by simp)
def upToL (n : Nat) : List Int := (List.range n).map fun (i : Nat) => (i : Int)
theorem upToL_succ (n : Nat) : upToL (n + 1) = upToL n ++ [(n : Int)] := by
 unfold upToL; rw [List.range_succ,List.map_append]; rfl
theorem getD_any {α : Type} [Inhabited α] {l : List α} {k : Nat} (h : k < l.length) : l[k]! = l[k] := by
 rw [List.getElem!_eq_getElem?_getD,List.getElem?_eq_getElem h]; rfl
theorem sub_upd {m : Mem} {b : Nat} {y : Option Box} (h : m b = none) : ∀ b' x,m b' = some x → upd m b y b' = some x := by
 intro b' x hx
 have : b' ≠ b := by rintro rfl; rw [h] at hx; cases hx
 rw [upd_ne _ _ this]; exact hx
theorem forget_fin {m : Mem} {b : Nat} {y : Option Box} {R : Prop} (h : m b = none) (hR : R) : ∃ m'' : Mem,(∀ b' x,m'' b' = some x → (if b' = b then y else m b') = some x) ∧ R ∧ m'' = m :=
 ⟨m,fun b' x hx => by
  have : b' ≠ b := by rintro rfl; rw [h] at hx; cases hx
  rw [if_neg this]; exact hx,hR,rfl⟩
theorem upd_upd {α : Type} (f : Nat → α) (i : Nat) (x y : α) : upd (upd f i x) i y = upd f i y := by
 funext k
 by_cases e : k = i
 ·subst e; rw [upd_same,upd_same]
 ·rw [upd_ne _ _ e,upd_ne _ _ e,upd_ne _ _ e]
def nameAt (i b : Nat) : Bool := decide ((97 ≤ b ∧ b ≤ 122) ∨ (0 < i ∧ (b = 46 ∨ (48 ≤ b ∧ b ≤ 57))))
def byteAt (s : ByteArray) (i : Nat) : Nat := (s.data.toList.getD i 0).toNat
def nameB (s : ByteArray) : Bool := decide (1 ≤ s.size ∧ s.size ≤ 16) && (List.range s.size).all fun i => nameAt i (byteAt s i)
theorem nameB_all {s : ByteArray} (h : ∀ i < s.size,nameAt i (byteAt s i) = true) : nameB s = decide (1 ≤ s.size ∧ s.size ≤ 16) := by
 have : (List.range s.size).all (fun i => nameAt i (byteAt s i)) = true := by
  rw [List.all_eq_true]; intro i hi; exact h i (List.mem_range.1 hi)
 simp [nameB,this]
theorem nameB_not {s : ByteArray} {i : Nat} (hi : i < s.size) (h : nameAt i (byteAt s i) = false) : nameB s = false := by
 have : (List.range s.size).all (fun i => nameAt i (byteAt s i)) = false := by
  rw [Bool.eq_false_iff]; intro h'
  rw [List.all_eq_true] at h'
  have := h' i (List.mem_range.2 hi)
  rw [h] at this; cases this
 simp [nameB,this]
theorem byteAt_get (s : ByteArray) {k : Nat} (h : k < s.size) : byteAt s k = (s[k]'h).toNat := by
 have h' : k < s.data.toList.length := by simpa using h
 unfold byteAt
 rw [List.getD_eq_getElem?_getD,List.getElem?_eq_getElem h']
 rfl
theorem decode_low {s : ByteArray} {k : Nat} (h : k < s.size) (ha : byteAt s k < 128) : Utf8.decode s k = (byteAt s k,1) := by
 rw [byteAt_get s h] at ha ⊢; exact decode_ascii s k h ha
theorem decode_hi {s : ByteArray} {k : Nat} (h : k < s.size) (ha : 128 ≤ byteAt s k) : 128 ≤ (Utf8.decode s k).1 ∧ 1 ≤ (Utf8.decode s k).2 := by
 rw [byteAt_get s h] at ha; exact decode_high s k h ha
theorem name_key {s : ByteArray} {k : Nat} (h : k < s.size) : (nameAt k (Utf8.decode s k).1 = true → Utf8.decode s k = (byteAt s k,1) ∧ nameAt k (byteAt s k) = true) ∧
  (nameAt k (Utf8.decode s k).1 = false → nameAt k (byteAt s k) = false) := by
 by_cases hb : byteAt s k < 128
 ·rw [decode_low h hb]; exact ⟨fun h' => ⟨rfl,h'⟩,fun h' => h'⟩
 ·have h1 := (decode_hi h (by omega)).1
  have h2 : nameAt k (Utf8.decode s k).1 = false := decide_eq_false (by omega)
  have h3 : nameAt k (byteAt s k) = false := decide_eq_false (by omega)
  rw [h2]; exact ⟨fun h => (by cases h),fun _ => h3⟩
theorem name_c (s : ByteArray) (hs : s.size ≤ 9223372036854775807) : PCall Try.prog 56 [.str s] (.bool (nameB s)) := by
 intro m
 refine ACall.forget ?_
 (refine acall_intro (E := envC (fun _ => .imm) false [4]) (envCOk _ _ _) rfl Try.func56 rfl Try.call56 (by kernel_rfl) (by simp [Try.ntmps56]) ?_; simp only [Try.f56];  simp(maxSteps:=9^9)only[↓VP,VQ,seval])
 intro b hmb
 refine aloop (envCOk _ _ _) (fun k : Nat => ⟨[(0,.v (.str s)),(7,.v (.ptr b 0))],[],[],upd m b (some (.iter s k))⟩)
  (fun k => k ≤ s.size ∧ ∀ i < k,nameAt i (byteAt s i) = true) (fun k => s.size - k) 0 (fun _ => rfl) (by simp) (by (simp only [FE,↓FP,seval]); try simp) ?_
 rintro k ⟨hk,hp⟩
 simp(maxSteps:=9^9)only[↓VP,VQ,seval]
 repeat'(first|intro _|apply And.intro)
 all_goals try first|omega|(simp only[LL];omega)|exact nlC (by decide) _|exact nbC rfl
 ·rename_i hlt
  obtain ⟨k1,k2⟩ := name_key hlt
  refine acut (envCOk _ _ _) (fun _ : Unit => ⟨[(0,.v (.str s)),(3,.v (.int .i64 k)),(4,.v (.int .i32 (Utf8.decode s k).1)),(5,.v (.bool (decide (97 ≤ (Utf8.decode s k).1 ∧ (Utf8.decode s k).1 ≤ 122)))),(7,.v (.ptr b 0))],[],[],
   upd m b (some (.iter s (k + (Utf8.decode s k).2)))⟩) (fun _ => True) (fun _ => rfl) ?_ ?_
  ·simp(maxSteps:=9^9)only[↓VP,VQ,seval]
   repeat'(first|intro _|apply And.intro)
   all_goals try first|omega|(simp only[LL];omega)|exact nlC (by decide) _|exact nbC rfl
   all_goals (refine ⟨(),?_⟩; (simp only [FE,↓FP,seval]); refine ⟨?_,upd_upd _ _ _ _⟩)
   all_goals (congr 2; rw [Bool.eq_iff_iff]; simp only [decide_eq_true_eq,Bool.and_eq_true,Bool.or_eq_true,Bool.not_eq_true',decide_eq_false_iff_not,true_iff,false_iff,iff_true,iff_false,Bool.true_eq_false,Bool.false_eq_true,and_false,false_and,and_true,true_and]; omega)
  ·intro _ _
   simp(maxSteps:=9^9)only[↓VP,VQ,seval]
   repeat'(first|intro _|apply And.intro)
   all_goals try first|omega|(simp only[LL];omega)|exact nlC (by decide) _|exact nbC rfl
   all_goals try (refine forget_fin hmb ?_; rw [nameB_not hlt (k2 (decide_eq_false (by omega)))])
   all_goals
    obtain ⟨k3,k4⟩ := k1 (decide_eq_true (by omega))
    refine ⟨k + 1,⟨by omega,fun i hi => ?_⟩,by dsimp only; omega,?_⟩
    ·by_cases e : i = k
     ·subst e; exact k4
     ·exact hp i (by omega)
    ·(simp only [FE,↓FP,seval])
     rw [k3]
 ·(refine ACall.pure (beyond_c 1 16 [(s.size : Int)]) ?_; try simp(maxSteps:=9^9)only[↓VP,VQ,seval])
  refine forget_fin hmb ?_
  rw [nameB_all fun i hi => hp i (by omega)]
  simp [offP]
  rw [Bool.eq_iff_iff]
  simp
  omega
def failFrom {α : Type} (f : Nat → α → Int) : Nat → List α → Int × Int
 | _,[] => (0,0)
 | k,x :: xs => if f k x ≠ 0 then ((k : Int),f k x) else failFrom f (k + 1) xs
theorem failFrom_hit {α : Type} {f : Nat → α → Int} {k : Nat} {x : α} {xs : List α} (h : f k x ≠ 0) : failFrom f k (x :: xs) = ((k : Int),f k x) := if_pos h
theorem failFrom_skip {α : Type} {f : Nat → α → Int} {k : Nat} {x : α} {xs : List α} (h : ¬ f k x ≠ 0) : failFrom f k (x :: xs) = failFrom f (k + 1) xs := if_neg h
theorem offOne_c (lo hi n : Int) : PCall Try.prog 53 [.int .i64 lo,.int .i64 hi,.slice 1 [.int .i64 n]] (.bool (offP lo hi n)) := by
 have := off_c lo hi [n]
 simpa [ints] using this
theorem failFrom_zero {α : Type} {f : Nat → α → Int} : ∀ {l : List α} {k : Nat},(failFrom f k l).2 = 0 ↔ ∀ i (h : i < l.length),f (k + i) l[i] = 0
 | [],k => by simp [failFrom]
 | x :: xs,k => by
  by_cases hx : f k x = 0
  ·rw [failFrom_skip (by simp [hx]),failFrom_zero]
   constructor
   ·intro h i hi
    cases i with
    | zero => simpa using hx
    | succ i => have := h i (by simpa using hi); rw [show k + (i + 1) = k + 1 + i by omega]; simpa using this
   ·intro h i hi
    have := h (i + 1) (by simpa using hi)
    rw [show k + 1 + i = k + (i + 1) by omega]; simpa using this
  ·rw [failFrom_hit hx]
   constructor
   ·intro h; exact absurd h hx
   ·intro h; have := h 0 (by simp); simp at this; exact absurd this hx
theorem offP_false {lo hi n : Int} : offP lo hi n = false ↔ lo ≤ n ∧ n ≤ hi := by simp [offP]
def setOf (f : Nat → Bool) : Nat → Nat
 | 0 => 0
 | n + 1 => if f n = true then setOf f n ||| 2 ^ n else setOf f n
theorem setOf_lt (f : Nat → Bool) : ∀ n,setOf f n < 2 ^ n
 | 0 => by simp [setOf]
 | n + 1 => by
  have h := setOf_lt f n
  have h1 : 2 ^ n < 2 ^ (n + 1) := Nat.pow_lt_pow_right (by decide) (by omega)
  unfold setOf
  split
  ·exact Nat.or_lt_two_pow (by omega) h1
  ·omega
theorem setOf_bit (f : Nat → Bool) (i : Nat) : ∀ n,(setOf f n).testBit i = (decide (i < n) && f i)
 | 0 => by simp [setOf]
 | n + 1 => by
  unfold setOf
  split
  ·rename_i h
   rw [Nat.testBit_or,setOf_bit f i n,Nat.testBit_two_pow]
   by_cases e : n = i
   ·subst e; simp [h]
   ·have h1 : (i < n) ↔ (i < n + 1) := by omega
    simp [e,h1]
  ·rename_i h
   rw [setOf_bit f i n]
   by_cases e : n = i
   ·subst e; simp [h]
   ·have h1 : (i < n) ↔ (i < n + 1) := by omega
    simp [h1]
theorem natAndNot_bit (a b i : Nat) : (natAndNot a b).testBit i = (a.testBit i && !b.testBit i) := by
 unfold natAndNot
 rw [Nat.testBit_xor,Nat.testBit_and]
 cases a.testBit i <;> cases b.testBit i <;> rfl
structure RCall where
 port : Int
 after : Int
deriving Inhabited,DecidableEq
structure RShip where
 name : ByteArray
 sails : Int
 calls : List RCall
 lo : Int
 hi : Int
deriving Inhabited
structure RLet where
 port : Int
 day : Int
 ship : Int
deriving Inhabited
structure RRep where
 kind : Int
 of_ : Int
 port : Int
 day : Int
deriving Inhabited
structure RHarb where
 ports : Int
 lost : Int
 ships : List RShip
 letters : List RLet
 reports : List RRep
def callA (x : RCall) : AV := .agg [.int .i64 x.port,.int .i64 x.after]
def shipL (s : RShip) : List AV := [.str s.name,.int .i64 s.sails,.slice 2 (s.calls.map callA),.int .i64 s.lo,.int .i64 s.hi]
def shipA (s : RShip) : AV := .agg (shipL s)
def letA (x : RLet) : AV := .agg [.int .i64 x.port,.int .i64 x.day,.int .i64 x.ship]
def repA (x : RRep) : AV := .agg [.int .i64 x.kind,.int .i64 x.of_,.int .i64 x.port,.int .i64 x.day]
def harbL (h : RHarb) : List AV := [.int .i64 h.ports,.int .i64 h.lost,.slice 5 (h.ships.map shipA),.slice 3 (h.letters.map letA),.slice 4 (h.reports.map repA)]
def harbA (h : RHarb) : AV := .agg (harbL h)
def atC (l : List RCall) (port : Int) : Int := idxL (fun c : RCall => decide (c.port = port)) l
def takesB (s : RShip) (port day : Int) : Bool := decide (day ≤ s.sails) && decide (0 ≤ atC s.calls port)
def callErr (ports : Int) (l : List RCall) (i : Nat) (c : RCall) : Int :=
 if offP 0 (ports - 1) c.port = true then 4 else if atC l c.port < i then 5 else if offP 1 20 c.after = true then 7 else if 0 < i ∧ c.after ≤ (l[i - 1]!).after then 2 else 0
def fitE (ports : Int) (s : RShip) : Int :=
 if (offP 0 20 s.sails || (offP 0 3 s.lo || offP 0 3 s.hi)) = true then 7 else if s.hi < s.lo then 2 else if 3 < s.calls.length then 3 else (failFrom (callErr ports s.calls) 0 s.calls).2
def shipErr (ports : Int) (l : List RShip) (i : Nat) (s : RShip) : Int :=
 if nameB s.name = true then (if (l.take i).any (fun x => decide (x.name = s.name)) = true then 5 else fitE ports s) else 6
def letErr (ports : Int) (l : List RShip) (x : RLet) : Int :=
 if offP 0 (ports - 1) x.port = true then 4 else if offP 0 20 x.day = true then 7 else if offP (-1) ((l.length : Int) - 1) x.ship = true then 4
 else if x.ship ≠ -1 ∧ takesB (l[x.ship.toNat]!) x.port x.day = false then 2 else 0
def repErr (ports : Int) (ships letters : Int) (x : RRep) : Int :=
 if offP 0 3 x.kind = true then 7 else if (offP 0 ((if x.kind < 2 then ships else letters) - 1) x.of_ || offP 0 (ports - 1) x.port) = true then 4
 else if 2 ≤ x.kind ∧ x.port ≠ 0 then 2 else if offP 0 60 x.day = true then 7 else 0
def shipsE (h : RHarb) : Int × Int := failFrom (shipErr h.ports h.ships) 0 h.ships
def lettersE (h : RHarb) : Int × Int := failFrom (fun _ => letErr h.ports h.ships) 0 h.letters
def reportsE (h : RHarb) : Int × Int := failFrom (fun _ => repErr h.ports h.ships.length h.letters.length) 0 h.reports
def checkH (h : RHarb) : Int × Int × Int :=
 if (offP 1 4 h.ports || offP 0 3 h.lost) = true then (1,0,7)
 else if 3 < h.ships.length then (2,0,3)
 else if (shipsE h).2 ≠ 0 then (2,(shipsE h).1,(shipsE h).2)
 else if 4 < h.letters.length then (3,0,3)
 else if (lettersE h).2 ≠ 0 then (3,(lettersE h).1,(lettersE h).2)
 else if 5 < h.reports.length then (4,0,3)
 else if (reportsE h).2 ≠ 0 then (4,(reportsE h).1,(reportsE h).2)
 else (0,0,0)
structure Fate where
 late : Int
 made : Int
deriving Inhabited,DecidableEq
def lateL (s : RShip) : List Int := (List.range (s.hi - s.lo + 1).toNat).map fun (i : Nat) => s.lo + i
def madeL (s : RShip) : List Int := (List.range (s.calls.length + 1)).map fun (i : Nat) => (i : Int)
def sinksI (s : RShip) (made : Int) : Int := if made < s.calls.length then 1 else 0
def fleetsI : List RShip → Int → List (List Fate)
 | [],_ => [[]]
 | s :: r,left => (madeL s).flatMap fun made => if sinksI s made ≤ left then (lateL s).flatMap fun late => (fleetsI r (left - sinksI s made)).map (Fate.mk late made :: ·) else []
def stepR (out : List (List Fate)) (s : RShip) : List (List Fate) := out.flatMap fun f => (lateL s).flatMap fun late => (madeL s).map fun made => f ++ [Fate.mk late made]
def allR (l : List RShip) : List (List Fate) := l.foldl stepR [[]]
def fokB : List RShip → List Fate → Bool
 | [],[] => true
 | s :: r,x :: f => (decide (s.lo ≤ x.late ∧ x.late ≤ s.hi) && decide (0 ≤ x.made ∧ x.made ≤ s.calls.length)) && fokB r f
 | _,_ => false
def lostN : List RShip → List Fate → Int
 | s :: r,x :: f => sinksI s x.made + lostN r f
 | _,_ => 0
def fleetsR (l : List RShip) (lost : Int) : List (List Fate) := (allR l).filter fun f => decide (lostN l f ≤ lost)
theorem mem_lateL {s : RShip} {x : Int} : x ∈ lateL s ↔ s.lo ≤ x ∧ x ≤ s.hi := by
 simp only [lateL,List.mem_map,List.mem_range]
 constructor
 ·rintro ⟨i,h,rfl⟩; omega
 ·rintro ⟨h1,h2⟩; exact ⟨(x - s.lo).toNat,by omega,by omega⟩
theorem mem_madeL {s : RShip} {x : Int} : x ∈ madeL s ↔ 0 ≤ x ∧ x ≤ s.calls.length := by
 simp only [madeL,List.mem_map,List.mem_range]
 constructor
 ·rintro ⟨i,h,rfl⟩; omega
 ·rintro ⟨h1,h2⟩; exact ⟨x.toNat,by omega,by omega⟩
theorem sinks_cases (s : RShip) (made : Int) : sinksI s made = 0 ∨ sinksI s made = 1 := by unfold sinksI; split <;> simp
theorem lostN_nonneg : ∀ (l : List RShip) (f : List Fate),0 ≤ lostN l f
 | [],f => by cases f <;> simp [lostN]
 | _ :: _,[] => by simp [lostN]
 | s :: r,x :: f => by
  have h1 := lostN_nonneg r f
  have h2 := sinks_cases s x.made
  simp only [lostN]; omega
theorem mem_fleetsI : ∀ {l : List RShip} {left : Int} {f : List Fate},0 ≤ left → (f ∈ fleetsI l left ↔ fokB l f = true ∧ lostN l f ≤ left)
 | [],left,f,h => by
  cases f with
  | nil => simp [fleetsI,fokB,lostN,h]
  | cons x f => simp [fleetsI,fokB]
 | s :: r,left,f,h => by
  have hs := fun made => sinks_cases s made
  simp only [fleetsI,List.mem_flatMap]
  constructor
  ·rintro ⟨made,hm,hf⟩
   split at hf
   ·rename_i hle
    simp only [List.mem_flatMap,List.mem_map] at hf
    obtain ⟨late,hl,g,hg,rfl⟩ := hf
    rw [mem_fleetsI (by have := hs made; omega)] at hg
    rw [mem_lateL] at hl
    rw [mem_madeL] at hm
    simp only [fokB,lostN,Bool.and_eq_true,decide_eq_true_eq]
    exact ⟨⟨⟨hl,hm⟩,hg.1⟩,by omega⟩
   ·simp at hf
  ·rintro ⟨h1,h2⟩
   cases f with
   | nil => simp [fokB] at h1
   | cons x f =>
    simp only [fokB,lostN,Bool.and_eq_true,decide_eq_true_eq] at h1 h2
    have h3 := lostN_nonneg r f
    refine ⟨x.made,mem_madeL.2 h1.1.2,?_⟩
    rw [if_pos (by omega)]
    simp only [List.mem_flatMap,List.mem_map]
    exact ⟨x.late,mem_lateL.2 h1.1.1,f,(mem_fleetsI (by have := hs x.made; omega)).2 ⟨h1.2,by omega⟩,rfl⟩
theorem fok_append : ∀ {l : List RShip} {_f : List Fate} {s : RShip} {g : List Fate},fokB (l ++ [s]) g = true ↔ ∃ (f : List Fate) (x : Fate),g = f ++ [x] ∧ fokB l f = true ∧ (s.lo ≤ x.late ∧ x.late ≤ s.hi) ∧ (0 ≤ x.made ∧ x.made ≤ (s.calls.length : Int))
 | [],_,s,g => by
  constructor
  ·intro h
   match g,h with
   | [x],h => simp [fokB] at h; exact ⟨[],x,rfl,rfl,h.1,h.2⟩
   | [],h => simp [fokB] at h
   | _ :: _ :: _,h => simp [fokB] at h
  ·rintro ⟨f,x,rfl,h1,h2,h3⟩
   cases f with
   | nil => simp [fokB,h2,h3]
   | cons y f => simp [fokB] at h1
 | t :: l,f0,s,g => by
  constructor
  ·intro h
   match g,h with
   | y :: g,h =>
    simp only [List.cons_append,fokB,Bool.and_eq_true] at h
    obtain ⟨f,x,rfl,h1,h2,h3⟩ := (fok_append (l := l) (_f := f0)).1 h.2
    exact ⟨y :: f,x,rfl,by simp only [fokB,Bool.and_eq_true]; exact ⟨h.1,h1⟩,h2,h3⟩
   | [],h => simp [fokB] at h
  ·rintro ⟨f,x,rfl,h1,h2,h3⟩
   cases f with
   | nil => simp [fokB] at h1
   | cons y f =>
    simp only [fokB,Bool.and_eq_true] at h1
    simp only [List.cons_append,fokB,Bool.and_eq_true]
    exact ⟨h1.1,(fok_append (l := l) (_f := f0)).2 ⟨f,x,rfl,h1.2,h2,h3⟩⟩
theorem mem_foldR : ∀ (r l : List RShip) (out : List (List Fate)),(∀ f,f ∈ out ↔ fokB l f = true) → ∀ f,f ∈ r.foldl stepR out ↔ fokB (l ++ r) f = true
 | [],l,out,h,f => by simpa using h f
 | s :: r,l,out,h,f => by
  have := mem_foldR r (l ++ [s]) (stepR out s) (fun g => by
   rw [fok_append (_f := [])]
   simp only [stepR,List.mem_flatMap,List.mem_map]
   constructor
   ·rintro ⟨f,hf,late,hl,made,hm,rfl⟩
    exact ⟨f,_,rfl,(h f).1 hf,mem_lateL.1 hl,mem_madeL.1 hm⟩
   ·rintro ⟨f,x,rfl,h1,h2,h3⟩
    exact ⟨f,(h f).2 h1,x.late,mem_lateL.2 h2,x.made,mem_madeL.2 h3,rfl⟩) f
  simpa using this
theorem mem_allR (l : List RShip) (f : List Fate) : f ∈ allR l ↔ fokB l f = true := by
 have := mem_foldR l [] [[]] (fun g => by cases g <;> simp [fokB]) f
 simpa [allR] using this
theorem mem_fleetsR {l : List RShip} {lost : Int} {f : List Fate} : f ∈ fleetsR l lost ↔ fokB l f = true ∧ lostN l f ≤ lost := by
 unfold fleetsR
 rw [List.mem_filter,mem_allR,decide_eq_true_eq]
theorem mem_fleets {l : List RShip} {lost : Int} (h : 0 ≤ lost) {f : List Fate} : f ∈ fleetsI l lost ↔ f ∈ fleetsR l lost := by
 rw [mem_fleetsI h,mem_fleetsR]
theorem idxL_cases {α : Type} (p : α → Bool) (l : List α) : idxL p l = -1 ∨ ∃ k,k < l.length ∧ idxL p l = (k : Int) := by
 induction l with
 | nil => exact .inl rfl
 | cons x l ih =>
  unfold idxL
  by_cases h : p x = true
  ·right; exact ⟨0,by simp,by simp [h]⟩
  ·rw [if_neg h]
   rcases ih with ih | ⟨k,h1,h2⟩
   ·left; rw [ih]; rfl
   ·right; exact ⟨k + 1,by simp; omega,by rw [if_neg (by omega),h2]; simp⟩
theorem indexCall_c (g : FuncId) (caps : List AV) (l : List RCall) (p : RCall → Bool) (h : ∀ x ∈ l,PCall Try.prog g ([callA x] ++ caps) (.bool (p x))) :
  PCall Try.prog 70 [.slice 2 (l.map callA),.fn (.func g) [] caps] (.int .i64 (idxL p l)) := by
 intro m
 (refine acall_len Try.call70 fun hlen => ?_; refine acall_intro (E := env fun _ => .imm) (envOk _) rfl Try.func70 rfl Try.call70 (by kernel_rfl) (by simp [Try.ntmps70]) ?_; simp only [Try.f70];  simp(maxSteps:=9^9)only[↓VP,VQ,seval])
 simp only [lenOk_cons,lenOk_nil,List.length_map,and_true,maxLen_eq] at hlen
 intro _
 refine aloop (envOk _) (fun k : Nat => ⟨[(0,.v (.slice 2 (l.map callA))),(1,.v (.fn (.func g) [] caps)),(7,.v (.int .i64 l.length)),(8,.v (.int .i64 k))],[],[],m⟩) (fun k => k ≤ l.length ∧ ∀ x ∈ l.take k,p x = false) (fun k => l.length - k) 0 (fun _ => rfl) (by simp) (by (simp only [FE,↓FP,seval]); try simp) ?_
 intro k ⟨hk,hp⟩
 simp(maxSteps:=9^9)only[↓VP,VQ,seval,↓callA]
 repeat'(first|intro _|apply And.intro)
 all_goals try first|omega|(simp only[LL];omega)|exact nlC (by decide) _|exact nbC rfl
 ·have hlt : k < l.length := by omega
  have e1 : l[k]! = l[k] := getD_any hlt
  have hc := h l[k]! (by rw [e1]; exact List.getElem_mem hlt)
  simp only [callA,List.cons_append,List.nil_append] at hc
  refine ACall.pure hc ?_
  simp(maxSteps:=9^9)only[↓VP,VQ,seval]
  repeat'(first|intro _|apply And.intro)
  all_goals try first|omega|(simp only[LL];omega)|exact nlC (by decide) _|exact nbC rfl
  ·rename_i hpx
   rw [idxL_at hlt hp (by rw [← e1]; exact hpx)]
  ·have hpx : ¬ p l[k]! = true := by assumption
   refine ⟨k + 1,⟨by omega,forall_take_succ hlt hp (by rw [← e1]; simpa using hpx)⟩,by dsimp only; omega,?_⟩
   simp only [FE,↓FP,seval]
   simp
 ·have : l.take k = l := List.take_of_length_le (by omega)
  rw [this] at hp
  rw [idxL_neg hp]
theorem failingCall_c (g : FuncId) (caps : List AV) (l : List RCall) (f : Nat → RCall → Int) (h : ∀ (i : Nat) (hi : i < l.length),PCall Try.prog g ([.int .i64 i,callA l[i]] ++ caps) (.int .i64 (f i l[i]))) :
  PCall Try.prog 75 [.slice 2 (l.map callA),.fn (.func g) [] caps] (.tuple [.int .i64 (failFrom f 0 l).1,.int .i64 (failFrom f 0 l).2]) := by
 intro m
 refine acall_len Try.call75 fun hlen => ?_; (refine acall_intro (E := envC (modeAt [7] []) false []) (envCOk _ _ _) rfl Try.func75 rfl Try.call75 (by kernel_rfl) (by simp [Try.ntmps75]) ?_; simp only [Try.f75];  simp(maxSteps:=9^9)only[↓VP,VQ,seval])
 simp only [lenOk_cons,lenOk_nil,List.length_map,and_true,maxLen_eq] at hlen
 intro _
 refine aloop (envCOk _ _ _) (fun k : Nat => ⟨[(0,.v (.slice 2 (l.map callA))),(1,.v (.fn (.func g) [] caps)),(9,.v (.slice 2 (l.map callA))),(10,.v (.int .i64 l.length)),(11,.v (.int .i64 k))],[],[],m⟩)
  (fun k => k ≤ l.length ∧ failFrom f k (l.drop k) = failFrom f 0 l) (fun k => l.length - k) 0 (fun _ => rfl) (by simp) (by (simp only [FE,↓FP,seval]); try simp) ?_
 rintro k ⟨hk,hf⟩
 simp(maxSteps:=9^9)only[↓VP,VQ,seval,↓callA]
 repeat'(first|intro _|apply And.intro)
 all_goals try first|omega|(simp only[LL];omega)|exact nlC (by decide) _|exact nbC rfl
 ·have hlt : k < l.length := by omega
  have e1 : l[k]! = l[k] := getD_any hlt
  rw [List.drop_eq_getElem_cons hlt] at hf
  have hc := h k hlt
  rw [← e1] at hc
  simp only [callA,List.cons_append,List.nil_append] at hc
  refine ACall.pure hc ?_
  simp(maxSteps:=9^9)only[↓VP,VQ,seval]
  repeat'(first|intro _|apply And.intro)
  all_goals try first|omega|(simp only[LL];omega)|exact nlC (by decide) _|exact nbC rfl
  ·have hne : f k l[k]! ≠ 0 := by assumption
   rw [e1] at hne
   rw [← hf,failFrom_hit hne,e1]
  ·have heq : ¬ f k l[k]! ≠ 0 := by assumption
   rw [e1] at heq
   rw [failFrom_skip heq] at hf
   (refine ⟨k + 1,?_,by dsimp only; omega,?_⟩; rotate_left 1; · ((simp only [FE,↓FP,seval]); try simp []))
   exact ⟨by omega,hf⟩
 ·rw [List.drop_eq_nil_of_le (by omega)] at hf
  rw [← hf]; rfl
theorem indexShip_c (g : FuncId) (caps : List AV) (l : List RShip) (p : RShip → Bool) (h : ∀ x ∈ l,PCall Try.prog g ([shipA x] ++ caps) (.bool (p x))) :
  PCall Try.prog 74 [.slice 5 (l.map shipA),.fn (.func g) [] caps] (.int .i64 (idxL p l)) := by
 intro m
 (refine acall_len Try.call74 fun hlen => ?_; refine acall_intro (E := env fun _ => .imm) (envOk _) rfl Try.func74 rfl Try.call74 (by kernel_rfl) (by simp [Try.ntmps74]) ?_; simp only [Try.f74];  simp(maxSteps:=9^9)only[↓VP,VQ,seval])
 simp only [lenOk_cons,lenOk_nil,List.length_map,and_true,maxLen_eq] at hlen
 intro _
 refine aloop (envOk _) (fun k : Nat => ⟨[(0,.v (.slice 5 (l.map shipA))),(1,.v (.fn (.func g) [] caps)),(7,.v (.int .i64 l.length)),(8,.v (.int .i64 k))],[],[],m⟩) (fun k => k ≤ l.length ∧ ∀ x ∈ l.take k,p x = false) (fun k => l.length - k) 0 (fun _ => rfl) (by simp) (by (simp only [FE,↓FP,seval]); try simp) ?_
 intro k ⟨hk,hp⟩
 simp(maxSteps:=9^9)only[↓VP,VQ,seval,↓shipA,shipL]
 repeat'(first|intro _|apply And.intro)
 all_goals try first|omega|(simp only[LL];omega)|exact nlC (by decide) _|exact nbC rfl
 ·have hlt : k < l.length := by omega
  have e1 : l[k]! = l[k] := getD_any hlt
  have hc := h l[k]! (by rw [e1]; exact List.getElem_mem hlt)
  simp only [shipA,shipL,List.cons_append,List.nil_append] at hc
  refine ACall.pure hc ?_
  simp(maxSteps:=9^9)only[↓VP,VQ,seval]
  repeat'(first|intro _|apply And.intro)
  all_goals try first|omega|(simp only[LL];omega)|exact nlC (by decide) _|exact nbC rfl
  ·rename_i hpx
   rw [idxL_at hlt hp (by rw [← e1]; exact hpx)]
  ·have hpx : ¬ p l[k]! = true := by assumption
   refine ⟨k + 1,⟨by omega,forall_take_succ hlt hp (by rw [← e1]; simpa using hpx)⟩,by dsimp only; omega,?_⟩
   simp only [FE,↓FP,seval]
   simp
 ·have : l.take k = l := List.take_of_length_le (by omega)
  rw [this] at hp
  rw [idxL_neg hp]
theorem containsShip_c (g : FuncId) (caps : List AV) (l : List RShip) (p : RShip → Bool) (h : ∀ x ∈ l,PCall Try.prog g ([shipA x] ++ caps) (.bool (p x))) :
  PCall Try.prog 57 [.slice 5 (l.map shipA),.fn (.func g) [] caps] (.bool (l.any p)) := by
 intro m
 (refine acall_intro (E := env fun _ => .imm) (envOk _) rfl Try.func57 rfl Try.call57 (by kernel_rfl) (by simp [Try.ntmps57]) ?_; simp only [Try.f57];  simp(maxSteps:=9^9)only[↓VP,VQ,seval])
 refine ACall.pure (indexShip_c g caps l p h) ?_
 simp(maxSteps:=9^9)only[↓VP,VQ,seval]
 repeat'(first|intro _|apply And.intro)
 rw [idxL_any]
theorem failingShip_c (g : FuncId) (caps : List AV) (l : List RShip) (f : Nat → RShip → Int) (h : ∀ (i : Nat) (hi : i < l.length),PCall Try.prog g ([.int .i64 i,shipA l[i]] ++ caps) (.int .i64 (f i l[i]))) :
  PCall Try.prog 54 [.slice 5 (l.map shipA),.fn (.func g) [] caps] (.tuple [.int .i64 (failFrom f 0 l).1,.int .i64 (failFrom f 0 l).2]) := by
 intro m
 refine acall_len Try.call54 fun hlen => ?_; (refine acall_intro (E := envC (modeAt [7] []) false []) (envCOk _ _ _) rfl Try.func54 rfl Try.call54 (by kernel_rfl) (by simp [Try.ntmps54]) ?_; simp only [Try.f54];  simp(maxSteps:=9^9)only[↓VP,VQ,seval])
 simp only [lenOk_cons,lenOk_nil,List.length_map,and_true,maxLen_eq] at hlen
 intro _
 refine aloop (envCOk _ _ _) (fun k : Nat => ⟨[(0,.v (.slice 5 (l.map shipA))),(1,.v (.fn (.func g) [] caps)),(9,.v (.slice 5 (l.map shipA))),(10,.v (.int .i64 l.length)),(11,.v (.int .i64 k))],[],[],m⟩)
  (fun k => k ≤ l.length ∧ failFrom f k (l.drop k) = failFrom f 0 l) (fun k => l.length - k) 0 (fun _ => rfl) (by simp) (by (simp only [FE,↓FP,seval]); try simp) ?_
 rintro k ⟨hk,hf⟩
 simp(maxSteps:=9^9)only[↓VP,VQ,seval,↓shipA,shipL]
 repeat'(first|intro _|apply And.intro)
 all_goals try first|omega|(simp only[LL];omega)|exact nlC (by decide) _|exact nbC rfl
 ·have hlt : k < l.length := by omega
  have e1 : l[k]! = l[k] := getD_any hlt
  rw [List.drop_eq_getElem_cons hlt] at hf
  have hc := h k hlt
  rw [← e1] at hc
  simp only [shipA,shipL,List.cons_append,List.nil_append] at hc
  refine ACall.pure hc ?_
  simp(maxSteps:=9^9)only[↓VP,VQ,seval]
  repeat'(first|intro _|apply And.intro)
  all_goals try first|omega|(simp only[LL];omega)|exact nlC (by decide) _|exact nbC rfl
  ·have hne : f k l[k]! ≠ 0 := by assumption
   rw [e1] at hne
   rw [← hf,failFrom_hit hne,e1]
  ·have heq : ¬ f k l[k]! ≠ 0 := by assumption
   rw [e1] at heq
   rw [failFrom_skip heq] at hf
   (refine ⟨k + 1,?_,by dsimp only; omega,?_⟩; rotate_left 1; · ((simp only [FE,↓FP,seval]); try simp []))
   exact ⟨by omega,hf⟩
 ·rw [List.drop_eq_nil_of_le (by omega)] at hf
  rw [← hf]; rfl
theorem failingLet_c (g : FuncId) (caps : List AV) (l : List RLet) (f : Nat → RLet → Int) (h : ∀ (i : Nat) (hi : i < l.length),PCall Try.prog g ([.int .i64 i,letA l[i]] ++ caps) (.int .i64 (f i l[i]))) :
  PCall Try.prog 60 [.slice 3 (l.map letA),.fn (.func g) [] caps] (.tuple [.int .i64 (failFrom f 0 l).1,.int .i64 (failFrom f 0 l).2]) := by
 intro m
 refine acall_len Try.call60 fun hlen => ?_; (refine acall_intro (E := envC (modeAt [7] []) false []) (envCOk _ _ _) rfl Try.func60 rfl Try.call60 (by kernel_rfl) (by simp [Try.ntmps60]) ?_; simp only [Try.f60];  simp(maxSteps:=9^9)only[↓VP,VQ,seval])
 simp only [lenOk_cons,lenOk_nil,List.length_map,and_true,maxLen_eq] at hlen
 intro _
 refine aloop (envCOk _ _ _) (fun k : Nat => ⟨[(0,.v (.slice 3 (l.map letA))),(1,.v (.fn (.func g) [] caps)),(9,.v (.slice 3 (l.map letA))),(10,.v (.int .i64 l.length)),(11,.v (.int .i64 k))],[],[],m⟩)
  (fun k => k ≤ l.length ∧ failFrom f k (l.drop k) = failFrom f 0 l) (fun k => l.length - k) 0 (fun _ => rfl) (by simp) (by (simp only [FE,↓FP,seval]); try simp) ?_
 rintro k ⟨hk,hf⟩
 simp(maxSteps:=9^9)only[↓VP,VQ,seval,↓letA]
 repeat'(first|intro _|apply And.intro)
 all_goals try first|omega|(simp only[LL];omega)|exact nlC (by decide) _|exact nbC rfl
 ·have hlt : k < l.length := by omega
  have e1 : l[k]! = l[k] := getD_any hlt
  rw [List.drop_eq_getElem_cons hlt] at hf
  have hc := h k hlt
  rw [← e1] at hc
  simp only [letA,List.cons_append,List.nil_append] at hc
  refine ACall.pure hc ?_
  simp(maxSteps:=9^9)only[↓VP,VQ,seval]
  repeat'(first|intro _|apply And.intro)
  all_goals try first|omega|(simp only[LL];omega)|exact nlC (by decide) _|exact nbC rfl
  ·have hne : f k l[k]! ≠ 0 := by assumption
   rw [e1] at hne
   rw [← hf,failFrom_hit hne,e1]
  ·have heq : ¬ f k l[k]! ≠ 0 := by assumption
   rw [e1] at heq
   rw [failFrom_skip heq] at hf
   (refine ⟨k + 1,?_,by dsimp only; omega,?_⟩; rotate_left 1; · ((simp only [FE,↓FP,seval]); try simp []))
   exact ⟨by omega,hf⟩
 ·rw [List.drop_eq_nil_of_le (by omega)] at hf
  rw [← hf]; rfl
theorem failingRep_c (g : FuncId) (caps : List AV) (l : List RRep) (f : Nat → RRep → Int) (h : ∀ (i : Nat) (hi : i < l.length),PCall Try.prog g ([.int .i64 i,repA l[i]] ++ caps) (.int .i64 (f i l[i]))) :
  PCall Try.prog 63 [.slice 4 (l.map repA),.fn (.func g) [] caps] (.tuple [.int .i64 (failFrom f 0 l).1,.int .i64 (failFrom f 0 l).2]) := by
 intro m
 refine acall_len Try.call63 fun hlen => ?_; (refine acall_intro (E := envC (modeAt [7] []) false []) (envCOk _ _ _) rfl Try.func63 rfl Try.call63 (by kernel_rfl) (by simp [Try.ntmps63]) ?_; simp only [Try.f63];  simp(maxSteps:=9^9)only[↓VP,VQ,seval])
 simp only [lenOk_cons,lenOk_nil,List.length_map,and_true,maxLen_eq] at hlen
 intro _
 refine aloop (envCOk _ _ _) (fun k : Nat => ⟨[(0,.v (.slice 4 (l.map repA))),(1,.v (.fn (.func g) [] caps)),(9,.v (.slice 4 (l.map repA))),(10,.v (.int .i64 l.length)),(11,.v (.int .i64 k))],[],[],m⟩)
  (fun k => k ≤ l.length ∧ failFrom f k (l.drop k) = failFrom f 0 l) (fun k => l.length - k) 0 (fun _ => rfl) (by simp) (by (simp only [FE,↓FP,seval]); try simp) ?_
 rintro k ⟨hk,hf⟩
 simp(maxSteps:=9^9)only[↓VP,VQ,seval,↓repA]
 repeat'(first|intro _|apply And.intro)
 all_goals try first|omega|(simp only[LL];omega)|exact nlC (by decide) _|exact nbC rfl
 ·have hlt : k < l.length := by omega
  have e1 : l[k]! = l[k] := getD_any hlt
  rw [List.drop_eq_getElem_cons hlt] at hf
  have hc := h k hlt
  rw [← e1] at hc
  simp only [repA,List.cons_append,List.nil_append] at hc
  refine ACall.pure hc ?_
  simp(maxSteps:=9^9)only[↓VP,VQ,seval]
  repeat'(first|intro _|apply And.intro)
  all_goals try first|omega|(simp only[LL];omega)|exact nlC (by decide) _|exact nbC rfl
  ·have hne : f k l[k]! ≠ 0 := by assumption
   rw [e1] at hne
   rw [← hf,failFrom_hit hne,e1]
  ·have heq : ¬ f k l[k]! ≠ 0 := by assumption
   rw [e1] at heq
   rw [failFrom_skip heq] at hf
   (refine ⟨k + 1,?_,by dsimp only; omega,?_⟩; rotate_left 1; · ((simp only [FE,↓FP,seval]); try simp []))
   exact ⟨by omega,hf⟩
 ·rw [List.drop_eq_nil_of_le (by omega)] at hf
  rw [← hf]; rfl
theorem vidx4_0 (a b c d : AV) (K : AV → Prop) : VIdx [a,b,c,d] 0 K = K a := by simp [VIdx]
theorem vidx4_1 (a b c d : AV) (K : AV → Prop) : VIdx [a,b,c,d] 1 K = K b := by simp [VIdx]
theorem vidx4_2 (a b c d : AV) (K : AV → Prop) : VIdx [a,b,c,d] 2 K = K c := by simp [VIdx]
theorem vidx4_3 (a b c d : AV) (K : AV → Prop) : VIdx [a,b,c,d] 3 K = K d := by simp [VIdx]
theorem VPure.of {P : Program} {g : FuncId} {xs : List AV} {r : AV} {hd : Bool} {m : Mem} {K : AV → Prop} (h : PCall P g xs r) (hk : K r) : VPure P g xs hd m K .mk := ⟨r,.inl h,hk⟩
theorem VPure.at {P : Program} {g : FuncId} {xs : List AV} {r : AV} {m : Mem} {K : AV → Prop} (h : ACall P g xs m fun r' m' => r' = r ∧ m' = m) (hk : K r) : VPure P g xs false m K .mk := ⟨r,.inr ⟨rfl,h⟩,hk⟩
theorem at1_c (x : RCall) (p : Int) : PCall Try.prog 84 [callA x,.eptr [.int .i64 p]] (.bool (decide (x.port = p))) := by
 intro m
 simp only [callA]
 (refine acall_intro (E := env fun _ => .imm) (envOk _) rfl Try.func84 rfl Try.call84 (by kernel_rfl) (by simp [Try.ntmps84]) ?_; simp only [Try.f84];  simp(maxSteps:=9^9)only[↓VP,VQ,seval])
 repeat'(first|intro _|apply And.intro)
theorem at_c (s : RShip) (p : Int) : PCall Try.prog 77 [shipA s,.int .i64 p] (.int .i64 (atC s.calls p)) := by
 intro m
 have h := indexCall_c 84 [.eptr [.int .i64 p]] s.calls (fun c => decide (c.port = p)) fun x _ => at1_c x p
 simp only [shipA,shipL]
 (refine acall_intro (E := env fun _ => .imm) (envOk _) rfl Try.func77 rfl Try.call77 (by kernel_rfl) (by simp [Try.ntmps77]) ?_; simp only [Try.f77];  simp(maxSteps:=9^9)only[↓VP,VQ,seval])
 ((refine ACall.pure (h) ?_; try simp(maxSteps:=9^9)only[↓VP,VQ,seval]); try simp(maxSteps:=9^9)only[↓VP,VQ,seval,GL])
 rfl
theorem takes_c (s : RShip) (p d : Int) : PCall Try.prog 62 [shipA s,.int .i64 p,.int .i64 d] (.bool (takesB s p d)) := by
 intro m
 have h := at_c s p
 simp only [shipA,shipL] at *
 have e : takesB s p d = (decide (d ≤ s.sails) && decide (0 ≤ atC s.calls p)) := rfl
 (refine acall_intro (E := env fun _ => .imm) (envOk _) rfl Try.func62 rfl Try.call62 (by kernel_rfl) (by simp [Try.ntmps62]) ?_; simp only [Try.f62];  simp(maxSteps:=9^9)only[↓VP,VQ,seval])
 repeat'(first|intro _|apply And.intro)
 ·((refine ACall.pure (h) ?_; try simp(maxSteps:=9^9)only[↓VP,VQ,seval]); try simp(maxSteps:=9^9)only[↓VP,VQ,seval,GL])
  repeat'(first|intro _|apply And.intro)
  rw [e]; congr 1; simp [*]
 ·rw [e]; congr 1; simp [*]
theorem offTwo_c (lo hi a b : Int) : PCall Try.prog 53 [.int .i64 lo,.int .i64 hi,.slice 1 [.int .i64 a,.int .i64 b]] (.bool (offP lo hi a || offP lo hi b)) := by
 have h := off_c lo hi [a,b]
 simpa [ints] using h
def portsFit (h : RHarb) : Prop := 1 ≤ h.ports ∧ h.ports ≤ 4
theorem fit1_c (h : RHarb) (s : RShip) (i : Nat) (c : RCall) (hp : portsFit h) (hi : i < s.calls.length) (hl : s.calls.length ≤ 3) :
  PCall Try.prog 76 [.int .i64 i,callA c,.eptr (harbL h),.eptr (shipL s)] (.int .i64 (callErr h.ports s.calls i c)) := by
 intro m
 unfold portsFit at hp
 have h1 := offOne_c 0 (h.ports - 1) c.port
 have h2 := offOne_c 1 20 c.after
 have h3 := at_c s c.port
 have e : callErr h.ports s.calls i c = if offP 0 (h.ports - 1) c.port = true then 4 else if atC s.calls c.port < i then 5 else if offP 1 20 c.after = true then 7 else if 0 < i ∧ c.after ≤ (s.calls[i - 1]!).after then 2 else 0 := rfl
 simp only [harbL,callA,shipA,shipL] at *
 (refine acall_intro (E := env fun _ => .imm) (envOk _) rfl Try.func76 rfl Try.call76 (by kernel_rfl) (by simp [Try.ntmps76]) ?_; simp only [Try.f76];  simp(maxSteps:=9^9)only[↓VP,VQ,seval])
 repeat'(first|intro _|apply And.intro)
 all_goals try first|omega|(simp only[LL];omega)|exact nlC (by decide) _|exact nbC rfl
 ((refine ACall.pure (h1) ?_; try simp(maxSteps:=9^9)only[↓VP,VQ,seval]); try simp(maxSteps:=9^9)only[↓VP,VQ,seval,GL])
 repeat'(first|intro _|apply And.intro)
 all_goals try first|omega|(simp only[LL];omega)|exact nlC (by decide) _|exact nbC rfl
 ·have q : offP 0 (h.ports - 1) c.port = true := by assumption
  rw [e,if_pos q]
 ((refine ACall.pure (h3) ?_; try simp(maxSteps:=9^9)only[↓VP,VQ,seval]); try simp(maxSteps:=9^9)only[↓VP,VQ,seval,GL])
 repeat'(first|intro _|apply And.intro)
 all_goals try first|omega|(simp only[LL];omega)|exact nlC (by decide) _|exact nbC rfl
 ·have q : ¬ offP 0 (h.ports - 1) c.port = true := by assumption
  have q2 : atC s.calls c.port < i := by assumption
  rw [e,if_neg q,if_pos q2]
 ((refine ACall.pure (h2) ?_; try simp(maxSteps:=9^9)only[↓VP,VQ,seval]); try simp(maxSteps:=9^9)only[↓VP,VQ,seval,GL])
 repeat'(first|intro _|apply And.intro)
 all_goals try first|omega|(simp only[LL];omega)|exact nlC (by decide) _|exact nbC rfl
 ·have q : ¬ offP 0 (h.ports - 1) c.port = true := by assumption
  have q2 : ¬ atC s.calls c.port < i := by assumption
  have q3 : offP 1 20 c.after = true := by assumption
  rw [e,if_neg q,if_neg q2,if_pos q3]
 have q : ¬ offP 0 (h.ports - 1) c.port = true := by assumption
 have q2 : ¬ atC s.calls c.port < i := by assumption
 have q3 : ¬ offP 1 20 c.after = true := by assumption
 rw [if_neg q,if_neg q2,if_neg q3] at e
 have hn : ((i : Int) - 1).toNat = i - 1 := by omega
 (refine adraw (by first | exact envOk _ | exact envCOk _ _ _) mixed [⟨false,false,0⟩,⟨false,false,0⟩,⟨false,false,0⟩,⟨false,false,0⟩,⟨false,false,0⟩,⟨false,false,0⟩,⟨false,false,0⟩,⟨false,false,0⟩,⟨false,false,0⟩,⟨false,false,0⟩,⟨false,false,0⟩,⟨false,false,0⟩,⟨false,false,0⟩,⟨false,false,0⟩,⟨false,false,0⟩] (by kernel_rfl) ?_; show vcOpsD _ _ _ (_ :: _) _ _)
 simp(maxSteps:=9^9)only[↓VP,VQ,seval,↓callA,hn]
 repeat'(first|intro _|apply And.intro)
 all_goals try first|omega|(simp only[LL];omega)|exact nlC (by decide) _|exact nbC rfl
 all_goals (first | (rw [e]; (repeat' split) <;> first | rfl | (exfalso; omega) | (exfalso; simp_all; done) | (exfalso; simp_all; omega)))
theorem fit_c (h : RHarb) (s : RShip) (hp : portsFit h) : PCall Try.prog 59 [harbA h,shipA s] (.int .i64 (fitE h.ports s)) := by
 intro m
 have h1 := offOne_c 0 20 s.sails
 have h2 := offTwo_c 0 3 s.lo s.hi
 have h3 := fun (hl : s.calls.length ≤ 3) => failingCall_c 76 [.eptr (harbL h),.eptr (shipL s)] s.calls (callErr h.ports s.calls) fun i hi => fit1_c h s i s.calls[i] hp hi hl
 have e : fitE h.ports s = if (offP 0 20 s.sails || (offP 0 3 s.lo || offP 0 3 s.hi)) = true then 7 else if s.hi < s.lo then 2 else if 3 < s.calls.length then 3 else (failFrom (callErr h.ports s.calls) 0 s.calls).2 := rfl
 generalize failFrom (callErr h.ports s.calls) 0 s.calls = ff at *
 simp only [harbA,harbL,shipA,shipL] at *
 (refine acall_intro (E := envC (modeAt [7,22,30] []) false []) (envCOk _ _ _) rfl Try.func59 rfl Try.call59 (by kernel_rfl) (by simp [Try.ntmps59]) ?_; simp only [Try.f59];  simp(maxSteps:=9^9)only[↓VP,VQ,seval])
 repeat'(first|intro _|apply And.intro)
 all_goals try first|omega|(simp only[LL];omega)|exact nlC (by decide) _|exact nbC rfl
 ((refine ACall.pure (h1) ?_; try simp(maxSteps:=9^9)only[↓VP,VQ,seval]); try simp(maxSteps:=9^9)only[↓VP,VQ,seval,GL])
 repeat'(first|intro _|apply And.intro)
 all_goals try first|omega|(simp only[LL];omega)|exact nlC (by decide) _|exact nbC rfl
 ·((refine ACall.pure (h2) ?_; try simp(maxSteps:=9^9)only[↓VP,VQ,seval]); try simp(maxSteps:=9^9)only[↓VP,VQ,seval,GL])
  repeat'(first|intro _|apply And.intro)
  all_goals try first|omega|(simp only[LL];omega)|exact nlC (by decide) _|exact nbC rfl
  ·(first | (rw [e]; (repeat' split) <;> first | rfl | (exfalso; omega) | (exfalso; simp_all; done) | (exfalso; simp_all; omega)))
  ·(first | (rw [e]; (repeat' split) <;> first | rfl | (exfalso; omega) | (exfalso; simp_all; done) | (exfalso; simp_all; omega)))
  ·(first | (rw [e]; (repeat' split) <;> first | rfl | (exfalso; omega) | (exfalso; simp_all; done) | (exfalso; simp_all; omega)))
  ·have hl : s.calls.length ≤ 3 := by omega
   have h3' := h3 hl
   ((refine ACall.pure (h3') ?_; try simp(maxSteps:=9^9)only[↓VP,VQ,seval]); try simp(maxSteps:=9^9)only[↓VP,VQ,seval,GL])
   (first | (rw [e]; (repeat' split) <;> first | rfl | (exfalso; omega) | (exfalso; simp_all; done) | (exfalso; simp_all; omega)))
 ·(first | (rw [e]; (repeat' split) <;> first | rfl | (exfalso; omega) | (exfalso; simp_all; done) | (exfalso; simp_all; omega)))
theorem check11_c (x s : RShip) : PCall Try.prog 58 [shipA x,.eptr (shipL s)] (.bool (decide (x.name = s.name))) := by
 intro m
 simp only [shipA,shipL]
 (refine acall_intro (E := env fun _ => .imm) (envOk _) rfl Try.func58 rfl Try.call58 (by kernel_rfl) (by simp [Try.ntmps58]) ?_; simp only [Try.f58];  simp(maxSteps:=9^9)only[↓VP,VQ,seval])
theorem check1_c (h : RHarb) (hp : portsFit h) (i : Nat) (s : RShip) (hi : i ≤ h.ships.length) (hs : s.name.size ≤ 9223372036854775807) :
  PCall Try.prog 55 [.int .i64 i,shipA s,.eptr (harbL h)] (.int .i64 (shipErr h.ports h.ships i s)) := by
 intro m
 have h1 := name_c s.name hs
 have h2 := containsShip_c 58 [.eptr (shipL s)] (h.ships.take i) (fun x => decide (x.name = s.name)) fun x _ => check11_c x s
 have h3 := fit_c h s hp
 have e : shipErr h.ports h.ships i s = if nameB s.name = true then (if (h.ships.take i).any (fun x => decide (x.name = s.name)) = true then 5 else fitE h.ports s) else 6 := rfl
 generalize (h.ships.take i).any (fun x => decide (x.name = s.name)) = tw at *
 generalize fitE h.ports s = fe at *
 rw [List.map_take] at h2
 simp only [harbA,harbL,shipA,shipL] at *
 (refine acall_intro (E := envC (modeAt [6,11] []) false []) (envCOk _ _ _) rfl Try.func55 rfl Try.call55 (by kernel_rfl) (by simp [Try.ntmps55]) ?_; simp only [Try.f55];  simp(maxSteps:=9^9)only[↓VP,VQ,seval])
 repeat'(first|intro _|apply And.intro)
 all_goals try first|omega|(simp only[LL];omega)|exact nlC (by decide) _|exact nbC rfl
 ((refine ACall.pure (h1) ?_; try simp(maxSteps:=9^9)only[↓VP,VQ,seval]); try simp(maxSteps:=9^9)only[↓VP,VQ,seval,GL])
 repeat'(first|intro _|apply And.intro)
 all_goals try first|omega|(simp only[LL];omega)|exact nlC (by decide) _|exact nbC rfl
 ·(first | (rw [e]; (repeat' split) <;> first | rfl | (exfalso; omega) | (exfalso; simp_all; done) | (exfalso; simp_all; omega)))
 ((refine ACall.pure (h2) ?_; try simp(maxSteps:=9^9)only[↓VP,VQ,seval]); try simp(maxSteps:=9^9)only[↓VP,VQ,seval,GL])
 repeat'(first|intro _|apply And.intro)
 all_goals try first|omega|(simp only[LL];omega)|exact nlC (by decide) _|exact nbC rfl
 ·(first | (rw [e]; (repeat' split) <;> first | rfl | (exfalso; omega) | (exfalso; simp_all; done) | (exfalso; simp_all; omega)))
 ((refine ACall.pure (h3) ?_; try simp(maxSteps:=9^9)only[↓VP,VQ,seval]); try simp(maxSteps:=9^9)only[↓VP,VQ,seval,GL])
 repeat'(first|intro _|apply And.intro)
 all_goals try first|omega|(simp only[LL];omega)|exact nlC (by decide) _|exact nbC rfl
 (first | (rw [e]; (repeat' split) <;> first | rfl | (exfalso; omega) | (exfalso; simp_all; done) | (exfalso; simp_all; omega)))
theorem check2_c (h : RHarb) (hp : portsFit h) (hs : h.ships.length ≤ 3) (i : Nat) (x : RLet) :
  PCall Try.prog 61 [.int .i64 i,letA x,.eptr (harbL h)] (.int .i64 (letErr h.ports h.ships x)) := by
 intro m
 unfold portsFit at hp
 have h1 := offOne_c 0 (h.ports - 1) x.port
 have h2 := offOne_c 0 20 x.day
 have h3 := offOne_c (-1) ((h.ships.length : Int) - 1) x.ship
 have h4 := takes_c (h.ships[x.ship.toNat]!) x.port x.day
 have e : letErr h.ports h.ships x = if offP 0 (h.ports - 1) x.port = true then 4 else if offP 0 20 x.day = true then 7 else if offP (-1) ((h.ships.length : Int) - 1) x.ship = true then 4
  else if x.ship ≠ -1 ∧ takesB (h.ships[x.ship.toNat]!) x.port x.day = false then 2 else 0 := rfl
 have hof : ¬ offP (-1) ((h.ships.length : Int) - 1) x.ship = true → -1 ≤ x.ship ∧ x.ship ≤ (h.ships.length : Int) - 1 := fun q => by simp [offP] at q; omega
 generalize takesB (h.ships[x.ship.toNat]!) x.port x.day = tk at *
 simp only [harbA,harbL,letA,shipA,shipL] at h1 h2 h3 h4 ⊢
 (refine acall_intro (E := envC (modeAt [6,14,19,28] []) false []) (envCOk _ _ _) rfl Try.func61 rfl Try.call61 (by kernel_rfl) (by simp [Try.ntmps61]) ?_; simp only [Try.f61];  simp(maxSteps:=9^9)only[↓VP,VQ,seval])
 repeat'(first|intro _|apply And.intro)
 all_goals try first|omega|(simp only[LL];omega)|exact nlC (by decide) _|exact nbC rfl
 ((refine ACall.pure (h1) ?_; try simp(maxSteps:=9^9)only[↓VP,VQ,seval]); try simp(maxSteps:=9^9)only[↓VP,VQ,seval,GL])
 repeat'(first|intro _|apply And.intro)
 all_goals try first|omega|(simp only[LL];omega)|exact nlC (by decide) _|exact nbC rfl
 ·(first | (rw [e]; (repeat' split) <;> first | rfl | (exfalso; omega) | (exfalso; simp_all; done) | (exfalso; simp_all; omega)))
 ((refine ACall.pure (h2) ?_; try simp(maxSteps:=9^9)only[↓VP,VQ,seval]); try simp(maxSteps:=9^9)only[↓VP,VQ,seval,GL])
 repeat'(first|intro _|apply And.intro)
 all_goals try first|omega|(simp only[LL];omega)|exact nlC (by decide) _|exact nbC rfl
 ·(first | (rw [e]; (repeat' split) <;> first | rfl | (exfalso; omega) | (exfalso; simp_all; done) | (exfalso; simp_all; omega)))
 ((refine ACall.pure (h3) ?_; try simp(maxSteps:=9^9)only[↓VP,VQ,seval]); try simp(maxSteps:=9^9)only[↓VP,VQ,seval,GL])
 repeat'(first|intro _|apply And.intro)
 all_goals try first|omega|(simp only[LL];omega)|exact nlC (by decide) _|exact nbC rfl
 ·(first | (rw [e]; (repeat' split) <;> first | rfl | (exfalso; omega) | (exfalso; simp_all; done) | (exfalso; simp_all; omega)))
 (refine adraw (by first | exact envOk _ | exact envCOk _ _ _) mixed [⟨false,false,0⟩,⟨false,false,0⟩,⟨false,false,0⟩,⟨false,false,0⟩,⟨false,false,0⟩,⟨false,false,0⟩,⟨false,false,0⟩,⟨false,false,0⟩,⟨false,false,0⟩,⟨false,false,0⟩,⟨false,false,0⟩,⟨false,false,0⟩,⟨false,false,0⟩,⟨false,false,0⟩,⟨false,false,0⟩,⟨false,false,0⟩,⟨false,false,0⟩,⟨false,false,0⟩] (by kernel_rfl) ?_; show vcOpsD _ _ _ (_ :: _) _ _)
 simp(maxSteps:=9^9)only[↓VP,VQ,seval,↓shipA,shipL]
 repeat'(first|intro _|apply And.intro)
 all_goals try first|omega|(simp only[LL];omega)|exact nlC (by decide) _|exact nbC rfl
 ·have := hof (by assumption); omega
 ·have := hof (by assumption); omega
 ·refine VPure.of h4 ?_
  simp(maxSteps:=9^9)only[↓VP,VQ,seval]
  repeat'(first|intro _|apply And.intro)
  all_goals try first|omega|(simp only[LL];omega)|exact nlC (by decide) _|exact nbC rfl
  all_goals (first | (rw [e]; (repeat' split) <;> first | rfl | (exfalso; omega) | (exfalso; simp_all; done) | (exfalso; simp_all; omega)))
 all_goals (first | (rw [e]; (repeat' split) <;> first | rfl | (exfalso; omega) | (exfalso; simp_all; done) | (exfalso; simp_all; omega)))
theorem check3_c (h : RHarb) (hp : portsFit h) (hs : h.ships.length ≤ 3) (hl : h.letters.length ≤ 4) (i : Int) (x : RRep) :
  PCall Try.prog 64 [.int .i64 i,repA x,.eptr (harbL h)] (.int .i64 (repErr h.ports h.ships.length h.letters.length x)) := by
 intro m
 unfold portsFit at hp
 obtain ⟨kind,of_,port,day⟩ := x
 have h1 := offOne_c 0 3 kind
 have h2 := offOne_c 0 ((h.ships.length : Int) - 1) of_
 have h2' := offOne_c 0 ((h.letters.length : Int) - 1) of_
 have h3 := offOne_c 0 (h.ports - 1) port
 have h4 := offOne_c 0 60 day
 have e : repErr h.ports h.ships.length h.letters.length ⟨kind,of_,port,day⟩ = if offP 0 3 kind = true then 7 else if (offP 0 ((if kind < 2 then (h.ships.length : Int) else h.letters.length) - 1) of_ || offP 0 (h.ports - 1) port) = true then 4
  else if 2 ≤ kind ∧ port ≠ 0 then 2 else if offP 0 60 day = true then 7 else 0 := rfl
 by_cases hk : 0 ≤ kind ∧ kind ≤ 3
 ·have hk4 : kind = 0 ∨ kind = 1 ∨ kind = 2 ∨ kind = 3 := by omega
  have hof : offP 0 3 kind = false := by simp [offP]; omega
  rw [hof] at h1
  rcases hk4 with rfl | rfl | rfl | rfl
  all_goals
   rw [if_neg (by rw [hof]; simp)] at e
   simp only [Int.reduceLT,↓reduceIte] at e
   simp only [harbA,harbL,repA] at *
   (refine acall_intro (E := envC (modeAt [6,24,44,53] []) false []) (envCOk _ _ _) rfl Try.func64 rfl Try.call64 (by kernel_rfl) (by simp [Try.ntmps64]) ?_; simp only [Try.f64];  simp(maxSteps:=9^9)only[↓VP,VQ,seval])
   repeat'(first|intro _|apply And.intro)
   all_goals try first|omega|(simp only[LL];omega)|exact nlC (by decide) _|exact nbC rfl
   ((refine ACall.pure (h1) ?_; try simp(maxSteps:=9^9)only[↓VP,VQ,seval]); try simp(maxSteps:=9^9)only[↓VP,VQ,seval,GL])
   repeat'(first|intro _|apply And.intro)
   all_goals try first|omega|(simp only[LL];omega)|exact nlC (by decide) _|exact nbC rfl
   (refine adraw (by first | exact envOk _ | exact envCOk _ _ _) mixed [⟨false,false,0⟩,⟨false,false,0⟩,⟨false,false,0⟩,⟨false,false,0⟩,⟨false,false,0⟩,⟨false,false,0⟩,⟨false,false,0⟩,⟨false,false,0⟩,⟨false,false,0⟩,⟨false,false,0⟩,⟨false,false,0⟩,⟨false,false,0⟩,⟨false,false,0⟩,⟨false,false,0⟩,⟨false,false,0⟩,⟨false,false,0⟩,⟨false,false,0⟩,⟨false,false,0⟩,⟨false,false,0⟩,⟨false,false,0⟩] (by kernel_rfl) ?_; show vcOpsD _ _ _ (_ :: _) _ _)
   simp(maxSteps:=9^9)only[↓VP,VQ,seval,vidx4_0,vidx4_1,vidx4_2,vidx4_3]
   (repeat' (first | intro _ | refine And.intro ?_ ?_ | ((refine ACall.pure (by with_reducible assumption) ?_; try simp(maxSteps:=9^9)only[↓VP,VQ,seval]); try simp(maxSteps:=9^9)only[↓VP,VQ,seval,GL]) | (refine VPure.of (by with_reducible assumption) ?_; try simp(maxSteps:=9^9)only[↓VP,VQ,seval,GL])))
   all_goals try first|omega|(simp only[LL];omega)|exact nlC (by decide) _|exact nbC rfl
  all_goals (first | (rw [e]; (repeat' split) <;> first | rfl | (exfalso; omega) | (exfalso; simp_all; done) | (exfalso; simp_all; omega)))
 ·have hof : offP 0 3 kind = true := by simp [offP]; omega
  rw [hof] at h1
  rw [if_pos hof] at e
  simp only [harbA,harbL,repA] at *
  (refine acall_intro (E := envC (modeAt [6,24,44,53] []) false []) (envCOk _ _ _) rfl Try.func64 rfl Try.call64 (by kernel_rfl) (by simp [Try.ntmps64]) ?_; simp only [Try.f64];  simp(maxSteps:=9^9)only[↓VP,VQ,seval])
  repeat'(first|intro _|apply And.intro)
  all_goals try first|omega|(simp only[LL];omega)|exact nlC (by decide) _|exact nbC rfl
  ((refine ACall.pure (h1) ?_; try simp(maxSteps:=9^9)only[↓VP,VQ,seval]); try simp(maxSteps:=9^9)only[↓VP,VQ,seval,GL])
  rw [e]
def hnamesFit (h : RHarb) : Prop := ∀ s ∈ h.ships,s.name.size ≤ 9223372036854775807
theorem checkH_first {h : RHarb} (h0 : (offP 1 4 h.ports || offP 0 3 h.lost) = true) : checkH h = (1,0,7) := by unfold checkH; rw [if_pos h0]
theorem check_c (h : RHarb) (hs : hnamesFit h) : PCall Try.prog 44 [harbA h] (.tuple [.int .i64 (checkH h).1,.int .i64 (checkH h).2.1,.int .i64 (checkH h).2.2]) := by
 have hc1 := offOne_c 1 4 h.ports
 have hc2 := offOne_c 0 3 h.lost
 intro m
 by_cases h0 : (offP 1 4 h.ports || offP 0 3 h.lost) = true
 ·rw [checkH_first h0]
  simp only [harbA,harbL]
  cases h1 : offP 1 4 h.ports
  ·cases h2 : offP 0 3 h.lost
   ·simp [h1,h2] at h0
   ·rw [h1] at hc1; rw [h2] at hc2
    (refine acall_intro (E := env fun _ => .imm) (envOk _) rfl Try.func44 rfl Try.call44 (by kernel_rfl) (by simp [Try.ntmps44]) ?_; simp only [Try.f44];  simp(maxSteps:=9^9)only[↓VP,VQ,seval])
    (refine ACall.pure (hc1) ?_; try simp(maxSteps:=9^9)only[↓VP,VQ,seval])
    (refine ACall.pure (hc2) ?_; try simp(maxSteps:=9^9)only[↓VP,VQ,seval])
  ·rw [h1] at hc1
   (refine acall_intro (E := env fun _ => .imm) (envOk _) rfl Try.func44 rfl Try.call44 (by kernel_rfl) (by simp [Try.ntmps44]) ?_; simp only [Try.f44];  simp(maxSteps:=9^9)only[↓VP,VQ,seval])
   (refine ACall.pure (hc1) ?_; try simp(maxSteps:=9^9)only[↓VP,VQ,seval])
 ·have h1 : offP 1 4 h.ports = false := by revert h0; cases offP 1 4 h.ports <;> simp
  have h2 : offP 0 3 h.lost = false := by revert h0; cases offP 0 3 h.lost <;> simp
  rw [h1] at hc1; rw [h2] at hc2
  have hp : portsFit h := by unfold portsFit; simp [offP] at h1; omega
  have hf1 := failingShip_c 55 [.eptr (harbL h)] h.ships (shipErr h.ports h.ships) fun i hi => check1_c h hp i h.ships[i] (by omega) (hs _ (List.getElem_mem hi))
  have hf2 := fun (q : ¬ 3 < h.ships.length) => failingLet_c 61 [.eptr (harbL h)] h.letters (fun _ => letErr h.ports h.ships) fun i hi => check2_c h hp (by omega) i h.letters[i]
  have hf3 := fun (q : ¬ 3 < h.ships.length) (q2 : ¬ 4 < h.letters.length) => failingRep_c 64 [.eptr (harbL h)] h.reports (fun _ => repErr h.ports h.ships.length h.letters.length) fun i hi => check3_c h hp (by omega) (by omega) i h.reports[i]
  have e : checkH h = if 3 < h.ships.length then (2,0,3)
    else if (shipsE h).2 ≠ 0 then (2,(shipsE h).1,(shipsE h).2)
    else if 4 < h.letters.length then (3,0,3)
    else if (lettersE h).2 ≠ 0 then (3,(lettersE h).1,(lettersE h).2)
    else if 5 < h.reports.length then (4,0,3)
    else if (reportsE h).2 ≠ 0 then (4,(reportsE h).1,(reportsE h).2)
    else (0,0,0) := by unfold checkH; rw [if_neg h0]
  change PCall _ _ _ (.tuple [.int .i64 (shipsE h).1,.int .i64 (shipsE h).2]) at hf1
  have hf2 : ¬ 3 < h.ships.length → PCall _ _ _ (.tuple [.int .i64 (lettersE h).1,.int .i64 (lettersE h).2]) := hf2
  have hf3 : ¬ 3 < h.ships.length → ¬ 4 < h.letters.length → PCall _ _ _ (.tuple [.int .i64 (reportsE h).1,.int .i64 (reportsE h).2]) := hf3
  generalize shipsE h = se at *
  generalize lettersE h = le at *
  generalize reportsE h = re at *
  generalize checkH h = W at *
  simp only [harbA,harbL] at *
  (refine acall_intro (E := env fun _ => .imm) (envOk _) rfl Try.func44 rfl Try.call44 (by kernel_rfl) (by simp [Try.ntmps44]) ?_; simp only [Try.f44];  simp(maxSteps:=9^9)only[↓VP,VQ,seval])
  (refine ACall.pure (hc1) ?_; try simp(maxSteps:=9^9)only[↓VP,VQ,seval])
  (refine ACall.pure (hc2) ?_; try simp(maxSteps:=9^9)only[↓VP,VQ,seval])
  repeat'(first|intro _|apply And.intro)
  ·rw [e,if_pos (by omega)]
  have h4 : ¬ 3 < h.ships.length := by omega
  rw [if_neg h4] at e
  (refine ACall.pure (hf1) ?_; try simp(maxSteps:=9^9)only[↓VP,VQ,seval])
  repeat'(first|intro _|apply And.intro)
  ·have h5 : se.2 ≠ 0 := by assumption
   rw [e,if_pos h5]
  ·have h5 : ¬ se.2 ≠ 0 := by assumption
   rw [e,if_neg h5,if_pos (by omega)]
  have h5 : ¬ se.2 ≠ 0 := by assumption
  have h6 : ¬ 4 < h.letters.length := by omega
  rw [if_neg h5,if_neg h6] at e
  (refine ACall.pure (hf2 h4) ?_; try simp(maxSteps:=9^9)only[↓VP,VQ,seval])
  repeat'(first|intro _|apply And.intro)
  ·have h7 : le.2 ≠ 0 := by assumption
   rw [e,if_pos h7]
  ·have h7 : ¬ le.2 ≠ 0 := by assumption
   rw [e,if_neg h7,if_pos (by omega)]
  have h7 : ¬ le.2 ≠ 0 := by assumption
  have h8 : ¬ 5 < h.reports.length := by omega
  rw [if_neg h7,if_neg h8] at e
  (refine ACall.pure (hf3 h4 h6) ?_; try simp(maxSteps:=9^9)only[↓VP,VQ,seval])
  repeat'(first|intro _|apply And.intro)
  ·have h9 : re.2 ≠ 0 := by assumption
   rw [e,if_pos h9]
  ·have h9 : ¬ re.2 ≠ 0 := by assumption
   rw [e,if_neg h9]
end Go.Proofs.Ytikodjpbknneoaa.Abs
