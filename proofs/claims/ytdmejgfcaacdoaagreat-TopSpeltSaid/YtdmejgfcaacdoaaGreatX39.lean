/- Lemmas for the statements of this seat (X39): they hold without conditions beyond those that each one states. -/
import Derived.Test.YtdmejgfcaacdoaaGreatX38
import Derived.Test.YtdmejgfcaacdoaaGreatX14
import Derived.Test.YtdmejgfcaacdoaaGreatX16
import Derived.Test.YtdmejgfcaacdoaaGreatX9
/- Contracts: the order of texts. -/
namespace Go.Proofs.YtdmejgfcaacdoaaGreat.Abs
set_option linter.unusedSimpArgs false
set_option maxHeartbeats 4000000
set_option maxRecDepth 100000
open Go Go.RowKit Go.Proofs
theorem idxC_bound (l : List RLetr) (c : Nat) : -1 ≤ idxC l c ∧ idxC l c ≤ l.length := by
 unfold idxC
 rcases idxL_cases (fun y : RLetr => decide (y.c = c)) l with h | ⟨k,hk,h⟩ <;> rw [h] <;> omega
theorem order1_c (l : List RLetr) (hl : l.length ≤ 1000) (x y : Nat) : PCall Tryz.prog 126 [.int .u8 x,.int .u8 y,.eptr [letrsA l]] (.int .i64 (idxC l x - idxC l y)) := by
 intro m
 have h1 := index_c l x
 have h2 := index_c l y
 have hx := idxC_bound l x
 have hy := idxC_bound l y
 generalize idxC l x = I at *
 generalize idxC l y = K at *
 simp only [letrsA] at h1 h2 ⊢
 (refine acall_intro (E := env fun _ => .imm) (envOk _) rfl Tryz.func126 rfl Tryz.call126 (by kernel_rfl) (by simp [Tryz.ntmps126]) ?_; simp only [Tryz.f126];  simp(maxSteps:=9^9)only[↓VX,VQ,seval])
 (refine adraw (by first | exact envOk _ | exact envCOk _ _ _) mixed [⟨false,false,0⟩,⟨false,false,0⟩,⟨false,false,0⟩,⟨false,false,0⟩,⟨false,false,0⟩,⟨false,false,0⟩,⟨false,false,0⟩,⟨false,false,0⟩] (by kernel_rfl) ?_; show vcOpsD _ _ _ (_ :: _) _ _)
 simp(maxSteps:=9^9)only[↓VX,VQ,seval]
 refine ⟨_,.inl h1,?_⟩
 simp(maxSteps:=9^9)only[↓VX,VQ,seval]
 refine ⟨_,.inl h2,?_⟩
 simp(maxSteps:=9^9)only[↓VX,VQ,seval]
 repeat'(first|intro _|apply And.intro)
 all_goals try first|omega|(simp only[LL];omega)|exact nlC (by decide) _|exact nbC rfl
theorem order_drop (l : List RLetr) {s t : List Nat} {k : Nat} (hs : k < s.length) (ht : k < t.length) :
  orderL l (s.drop k) (t.drop k) = if idxC l s[k]! - idxC l t[k]! ≠ 0 then idxC l s[k]! - idxC l t[k]! else orderL l (s.drop (k + 1)) (t.drop (k + 1)) := by
 rw [List.drop_eq_getElem_cons hs,List.drop_eq_getElem_cons ht,orderL,getElem!_pos s k hs,getElem!_pos t k ht]
theorem compare_c (l : List RLetr) (hl : l.length ≤ 1000) (s t : List Nat) : PCall Tryz.prog 125 [.slice 1 (bytes8 s),.slice 1 (bytes8 t),.fn (.func 126) [] [.eptr [letrsA l]]] (.int .i64 (orderL l s t)) := by
 intro m
 have h1 := fun x y => order1_c l hl x y
 have hbs : (bytes8 s).length = s.length := by unfold bytes8; rw [List.length_map]
 have hbt : (bytes8 t).length = t.length := by unfold bytes8; rw [List.length_map]
 (refine acall_intro (E := envC (modeAt [] []) false []) (envCOk _ _ _) rfl Tryz.func125 rfl Tryz.call125 (by kernel_rfl) (by simp [Tryz.ntmps125]) ?_; simp only [Tryz.f125];  simp(maxSteps:=9^9)only[↓VX,VQ,seval,hbs,hbt])
 repeat'(first|intro _|apply And.intro)
 refine aloop (envCOk _ _ _) (fun k : Nat => ⟨[(0,.v (.slice 1 (bytes8 s))),(1,.v (.slice 1 (bytes8 t))),(2,.v (.fn (.func 126) [] [.eptr [letrsA l]])),(11,.v (.slice 1 (bytes8 s))),(12,.v (.int .i64 s.length)),(13,.v (.int .i64 k))],[],[],m⟩)
  (fun k => (k ≤ s.length ∧ k ≤ t.length) ∧ orderL l s t = orderL l (s.drop k) (t.drop k)) (fun k => s.length - k) 0 (fun _ => rfl) ⟨⟨Nat.zero_le _,Nat.zero_le _⟩,rfl⟩ (by (simp only [FE,↓FP,seval]); repeat' (first | rfl | apply And.intro)) ?_
 rintro k ⟨⟨hks,hkt⟩,ho⟩
 by_cases q1 : k < s.length
 ·have z1 : ((k : Int) < (s.length : Int)) = True := eq_true (by omega)
  by_cases q2 : k < t.length
  ·have z2 : ((t.length : Int) ≤ (k : Int)) = False := eq_false (by omega)
   have hd := order_drop l q1 q2
   have h1 := h1 s[k]! t[k]!
   generalize idxC l s[k]! - idxC l t[k]! = D at *
   by_cases d0 : D = 0
   ·have d1 : (D = 0) = True := eq_true d0
    rw [if_neg (fun q => q d0)] at hd
    simp(maxSteps:=9^9)only[↓VX,VQ,seval,z1,z2,hbs,hbt,↓ixByte8]
    repeat'(first|intro _|apply And.intro)
    all_goals try first|omega|(simp only[LL];omega)|exact nlC (by decide) _|exact nbC rfl
    (refine ACall.pure (h1) ?_; try simp(maxSteps:=9^9)only[↓VX,VQ,seval])
    simp(maxSteps:=9^9)only[↓VX,VQ,seval,d1]
    repeat'(first|intro _|apply And.intro)
    all_goals try first|omega|(simp only[LL];omega)|exact nlC (by decide) _|exact nbC rfl
    refine ⟨k + 1,⟨⟨by omega,by omega⟩,by rw [ho,hd]⟩,by dsimp only; omega,?_⟩
    (simp only [FE,↓FP,seval])
    try simp
   ·have d1 : (D = 0) = False := eq_false d0
    rw [if_pos d0] at hd
    simp(maxSteps:=9^9)only[↓VX,VQ,seval,z1,z2,hbs,hbt,↓ixByte8]
    repeat'(first|intro _|apply And.intro)
    all_goals try first|omega|(simp only[LL];omega)|exact nlC (by decide) _|exact nbC rfl
    (refine ACall.pure (h1) ?_; try simp(maxSteps:=9^9)only[↓VX,VQ,seval])
    simp(maxSteps:=9^9)only[↓VX,VQ,seval,d1]
    repeat'(first|intro _|apply And.intro)
    rw [ho,hd]
  ·have z2 : ((t.length : Int) ≤ (k : Int)) = True := eq_true (by omega)
   simp(maxSteps:=9^9)only[↓VX,VQ,seval,z1,z2,hbs,hbt,↓ixByte8]
   repeat'(first|intro _|apply And.intro)
   all_goals try first|omega|(simp only[LL];omega)|exact nlC (by decide) _|exact nbC rfl
   have ht0 : t.drop k = [] := List.drop_eq_nil_of_le (by omega)
   rw [ho,ht0,List.drop_eq_getElem_cons q1]
   rfl
 ·have z1 : ((k : Int) < (s.length : Int)) = False := eq_false (by omega)
  obtain rfl : k = s.length := by omega
  by_cases q2 : s.length < t.length
  ·have z2 : ((s.length : Int) < (t.length : Int)) = True := eq_true (by omega)
   simp(maxSteps:=9^9)only[↓VX,VQ,seval,z1,z2,hbs,hbt]
   repeat'(first|intro _|apply And.intro)
   rw [ho,List.drop_length,List.drop_eq_getElem_cons q2]
   rfl
  ·have z2 : ((s.length : Int) < (t.length : Int)) = False := eq_false (by omega)
   simp(maxSteps:=9^9)only[↓VX,VQ,seval,z1,z2,hbs,hbt]
   repeat'(first|intro _|apply And.intro)
   rw [ho,List.drop_length,List.drop_eq_nil_of_le (by omega)]
   rfl
theorem vcAll_cons {V : Oper → (St → Prop) → St → Prop} {o : Oper} {os : List Oper} {K : St → Prop} {st : St} (h : V o (vcAll V os K) st) : vcAll V (o :: os) K st := h
theorem vcW_other {E : Env} {o : Oper} {K : St → Prop} {st : St} (h : isConv o.op = false) (hk : vcOp E o K st) : vcW E o K st := by
 unfold vcW
 rw [if_neg (by simp [h])]; exact hk
theorem vcW_conv {E : Env} {o : Oper} {K : St → Prop} {st : St} (h : isConv o.op = true) (hk : vcConvS E o K st) : vcW E o K st := by
 unfold vcW
 rw [if_pos h]; exact .inl hk
theorem bytesAV_8 (s : ByteArray) : bytesAV s = bytes8 (bytesOf s) := by
 refine List.ext_getElem (by simp [bytesAV,bytes8,bytesOf]) fun i h1 h2 => ?_
 simp only [bytesAV,bytes8,bytesOf,List.getElem_map,List.getElem_range,byteAt]
 have hi : i < s.data.toList.length := by simpa [bytesAV] using h1
 rw [List.getD_eq_getElem?_getD,List.getElem?_eq_getElem hi]
 rfl
theorem order_c (l : List RLetr) (hl : l.length ≤ 1000) (s t : ByteArray) (hs : s.size ≤ 1000) (ht : t.size ≤ 1000) : PCall Tryz.prog 73 [letrsA l,.str s,.str t] (.int .i64 (orderL l (bytesOf s) (bytesOf t))) := by
 intro m
 have hc := compare_c l hl (bytesOf s) (bytesOf t)
 have hm : s.size ≤ maxLen ∧ t.size ≤ maxLen := by unfold maxLen; omega
 simp only [letrsA] at hc ⊢
 (refine acall_intro (E := envC (modeAt [] []) false [1]) (envCOk _ _ _) rfl Tryz.func73 rfl Tryz.call73 (by kernel_rfl) (by simp [Tryz.ntmps73]) ?_; simp only [Tryz.f73];  simp(maxSteps:=9^9)only[↓VX,VQ,seval])
 refine acut_all (V := vcW _) (fun h hd _ _ _ hi hf hs _ _ _ hn => vcW_sound (envCOk _ _ _) h hd hi hf hs hn) rfl (fun _ : Unit => ⟨[(6,.v (.int .i64 (orderL l (bytesOf s) (bytesOf t))))],[],[],m⟩) (fun _ => True) (fun _ => rfl) ?_ ?_
 ·refine vcAll_cons (vcW_other rfl ?_)
  simp(maxSteps:=9^9)only[↓VX,VQ,seval]
  refine vcAll_cons (vcW_conv rfl ?_)
  simp(maxSteps:=9^9)only[↓VX,VQ,seval,vcConvS]
  refine ⟨hm.1,?_⟩
  refine vcAll_cons (vcW_other rfl ?_)
  simp(maxSteps:=9^9)only[↓VX,VQ,seval]
  refine vcAll_cons (vcW_conv rfl ?_)
  simp(maxSteps:=9^9)only[↓VX,VQ,seval,vcConvS]
  refine ⟨hm.2,?_⟩
  refine vcAll_cons (vcW_other rfl ?_)
  simp(maxSteps:=9^9)only[↓VX,VQ,seval]
  refine vcAll_cons (vcW_other rfl ?_)
  rw [bytesAV_8,bytesAV_8]
  simp(maxSteps:=9^9)only[↓VX,VQ,seval]
  refine ACall.pure hc ?_
  refine vcAll_cons (vcW_other rfl ?_)
  simp(maxSteps:=9^9)only[↓VX,VQ,seval]
  simp only [vcAll]
  refine ⟨(),?_⟩
  (simp only [FE,↓FP,seval])
  try rfl
 rintro _ _
 simp(maxSteps:=9^9)only[↓VX,VQ,seval]
def optT (o : Option (List Nat)) : ByteArray := textB (o.getD [])
def writeA (l : List RLetr) (h : List Nat) (bx : Nat) : AV := .fn (.func 71) [] [.eptr (heardL h),.eptr [letrsA l],.ptr bx 0]
def letT (l : List RLetr) (m : Nat) (h : List Nat) (x : RLetr) : Option (List Nat) := (pickT l (if x.silent = true then spellD l m h else none) (headT x (spellD l m) h)).map (x.c :: ·)
theorem spellD_succ (l : List RLetr) (m : Nat) (h : List Nat) : spellD l (m + 1) h = l.findSome? (letT l m h) := rfl
theorem letT_in {l : List RLetr} (hc : ∀ x ∈ l,97 ≤ x.c ∧ x.c ≤ 122) : ∀ {m : Nat} {h t : List Nat},spellD l m h = some t → t.length = m ∧ ∀ c ∈ t,97 ≤ c ∧ c ≤ 122
 | 0,h,t,e => by
  rw [spellD] at e
  split at e
  ·cases e; exact ⟨rfl,by simp⟩
  ·cases e
 | m + 1,h,t,e => by
  rw [spellD_succ] at e
  obtain ⟨x,hx,e⟩ := List.exists_of_findSome?_eq_some e
  unfold letT at e
  cases hp : pickT l (if x.silent = true then spellD l m h else none) (headT x (spellD l m) h) with
  | none => rw [hp] at e; cases e
  | some t' =>
   rw [hp] at e
   cases e
   have key : ∃ h',spellD l m h' = some t' := by
    rcases pickT_or hp with h1 | h1
    ·split at h1
     ·exact ⟨h,h1⟩
     ·cases h1
    ·cases h with
     | nil => cases h1
     | cons r h' =>
      rw [headT] at h1
      split at h1
      ·exact ⟨h',h1⟩
      ·cases h1
   obtain ⟨h',e'⟩ := key
   obtain ⟨a1,a2⟩ := letT_in hc e'
   refine ⟨by simp [a1],fun c hc' => ?_⟩
   rcases List.mem_cons.1 hc' with rfl | hc'
   ·exact hc x hx
   ·exact a2 c hc'
theorem encode_letter {c : Nat} (hc : c < 128) (t : List Nat) : Utf8.encode (c : Int) ++ textB t = textB (c :: t) := by
 have hv : Utf8.valid (c : Int) = true := by
  unfold Utf8.valid
  simp
  omega
 have he : Utf8.encode (c : Int) = ⟨#[UInt8.ofNat c]⟩ := by
  unfold Utf8.encode
  simp only [hv,if_true,Int.toNat_natCast,hc]
 rw [he]
 apply ByteArray.ext
 rw [ByteArray.data_append]
 unfold textB
 apply Array.ext'
 simp
theorem encode_size {c : Nat} (hc : c < 128) {t : List Nat} (ht : t.length ≤ 100) : (Utf8.encode (c : Int)).size + (textB t).size ≤ 9223372036854775807 := by
 have h1 := congrArg ByteArray.size (encode_letter hc t)
 rw [ByteArray.size_append,textB_size (c :: t),List.length_cons] at h1
 omega
theorem find_drop {l : List RLetr} {f : RLetr → Option (List Nat)} {i : Nat} (hi : i < l.length) : (l.drop i).findSome? f = match f l[i]! with | some t => some t | none => (l.drop (i + 1)).findSome? f := by
 rw [List.drop_eq_getElem_cons hi,List.findSome?_cons,getElem!_pos l i hi]
 cases f l[i] <;> rfl
theorem drop_snd {h : List Nat} {k : Nat} (hk : k < h.length) : h.drop k = h[k]! :: h.drop (k + 1) := by
 rw [List.drop_eq_getElem_cons hk,getElem!_pos h k hk]
theorem snd_drop {h : List Nat} (hh : h.length ≤ 5) {k : Nat} (hk : k < h.length) : List.drop k [AV.int .i64 (snd h 0),.int .i64 (snd h 1),.int .i64 (snd h 2),.int .i64 (snd h 3),.int .i64 (snd h 4)] =
  .int .i64 (h[k]! : Nat) :: List.drop (k + 1) [AV.int .i64 (snd h 0),.int .i64 (snd h 1),.int .i64 (snd h 2),.int .i64 (snd h 3),.int .i64 (snd h 4)] := by
 have e : snd h k = ((h[k]! : Nat) : Int) := by
  unfold snd
  rw [List.getD_eq_getElem?_getD,List.getElem?_eq_getElem hk,getElem!_pos h k hk]; rfl
 rw [← e]
 have hc : k = 0 ∨ k = 1 ∨ k = 2 ∨ k = 3 ∨ k = 4 := by omega
 rcases hc with rfl | rfl | rfl | rfl | rfl <;> rfl
theorem order_text (l : List RLetr) (hl : l.length ≤ 1000) {t s : List Nat} (ht : t.length ≤ 1000) (hs : s.length ≤ 1000) (ct : ∀ c ∈ t,c < 256) (cs : ∀ c ∈ s,c < 256) :
  PCall Tryz.prog 73 [.slice 3 (l.map letrA),.str (textB t),.str (textB s)] (.int .i64 (orderL l t s)) := by
 have h := order_c l hl (textB t) (textB s) (by rw [textB_size]; exact ht) (by rw [textB_size]; exact hs)
 have e1 := bytesOf_text ct
 have e2 := bytesOf_text cs
 rw [e1,e2] at h
 exact h
theorem vcW_convO {E : Env} {o : Oper} {K : St → Prop} {st : St} (h : isConv o.op = true) (hk : vcOp E o K st) : vcW E o K st := by
 unfold vcW
 rw [if_pos h]; exact .inr hk
theorem earwrite_c (l : List RLetr) (hl : l.length ≤ 6) (hc : ∀ x ∈ l,(0 ≤ x.sounds ∧ x.sounds ≤ 15) ∧ 97 ≤ x.c ∧ x.c ≤ 122) (h : List Nat) (hh : h.length ≤ 5) (hk : ∀ n ∈ h,n < 4) (bx : Nat) :
  ∀ (many : Nat),many ≤ 5 → ∀ (done : Nat),done ≤ h.length → ∀ (m : Mem),m bx = some (.cells [writeA l h bx]) →
  ACall Tryz.prog 71 [.int .i64 done,.int .i64 many,.eptr (heardL h),.eptr [letrsA l],.ptr bx 0] m fun r m' => r = .tuple [.str (optT (spellD l many (h.drop done))),.bool (spellD l many (h.drop done)).isSome] ∧ m' = m
 | 0,_,done,hd,m,hm => by
  have hz : (spellD l 0 (h.drop done)).isSome = decide (done = h.length) := by
   rw [spellD]
   by_cases q : done = h.length
   ·subst q; simp
   ·have : (h.drop done).isEmpty = false := by
     rw [List.isEmpty_eq_false_iff]
     intro e
     have := congrArg List.length e
     simp at this
     omega
    simp [this,q]
  have ht : optT (spellD l 0 (h.drop done)) = ⟨#[]⟩ := by
   rw [spellD]
   split <;> rfl
  rw [hz,ht]
  have z1 : (((0 : Nat) : Int) = 0) = True := eq_true rfl
  simp only [heardL,letrsA,writeA] at hm ⊢
  (refine acall_intro (E := envC (modeAt [10] [4]) false []) (envCOk _ _ _) rfl Tryz.func71 rfl Tryz.call71 (by kernel_rfl) (by simp [Tryz.ntmps71]) ?_; simp only [Tryz.f71];  simp(maxSteps:=9^9)only[↓VX,VQ,seval,z1])
  (refine adraw (by first | exact envOk _ | exact envCOk _ _ _) mixed [⟨false,false,0⟩,⟨false,false,0⟩,⟨false,false,0⟩,⟨false,false,0⟩,⟨false,false,0⟩,⟨false,false,0⟩] (by kernel_rfl) ?_; show vcOpsD _ _ _ (_ :: _) _ _)
  simp(maxSteps:=9^9)only[↓VX,VQ,seval]
  have e : ((done : Int) = (h.length : Int)) = (done = h.length) := propext ⟨fun q => by omega,fun q => by omega⟩
  simp only [e]
 | many + 1,hmany,done,hd,m,hm => by
  have ih := fun d hd' => earwrite_c l hl hc h hh hk bx many (by omega) d hd' m hm
  have hch : ∀ x ∈ l,97 ≤ x.c ∧ x.c ≤ 122 := fun x hx => (hc x hx).2
  have hA := fun t e => letT_in hch (m := many) (h := h.drop done) (t := t) e
  have hB := fun t e => letT_in hch (m := many) (h := h.drop (done + 1)) (t := t) e
  have ih0 := ih done hd
  have ih1 := ih (done + 1)
  obtain ⟨A,eA⟩ : ∃ A,A = spellD l many (h.drop done) := ⟨_,rfl⟩
  obtain ⟨B,eB⟩ : ∃ B,B = spellD l many (h.drop (done + 1)) := ⟨_,rfl⟩
  rw [← eA] at ih0 hA
  rw [← eB] at ih1 hB
  have hord : ∀ s t,A = some s → B = some t → PCall Tryz.prog 73 [.slice 3 (l.map letrA),.str (textB t),.str (textB s)] (.int .i64 (orderL l t s)) := fun s t q1 q2 => by
   exact order_text l (by omega) (by have := (hB t q2).1; omega) (by have := (hA s q1).1; omega) (fun c q => by have := (hB t q2).2 c q; omega) (fun c q => by have := (hA s q1).2 c q; omega)
  obtain ⟨F,eF⟩ : ∃ F,F = letT l many (h.drop done) := ⟨_,rfl⟩
  have hF : ∀ x,F x = (pickT l (if x.silent = true then A else none) (if done < h.length then (if givesB x h[done]! = true then B else none) else none)).map (x.c :: ·) := fun x => by
   rw [eF,letT,eA,eB]
   congr 2
   by_cases q : done < h.length
   ·rw [if_pos q,drop_snd q,headT]
   ·rw [if_neg q,List.drop_eq_nil_of_le (by omega),headT]
  have z0 : (((many + 1 : Nat) : Int) = 0) = False := eq_false (by omega)
  rw [spellD_succ,← eF]
  have hg := fun (x : RLetr) (hx : x ∈ l) (n : Nat) hn => gives_c x (hc x hx).1 n hn
  simp only [heardL,letrsA,writeA,Int.natCast_add,Int.natCast_one] at hm ih0 ih1 z0 ⊢
  (refine acall_intro (E := envC (modeAt [10] []) false [14]) (envCOk _ _ _) rfl Tryz.func71 rfl Tryz.call71 (by kernel_rfl) (by simp [Tryz.ntmps71]) ?_; simp only [Tryz.f71];  simp(maxSteps:=9^9)only[↓VX,VQ,seval,z0])
  intro _
  refine aloop (envCOk _ _ _) (fun i : Nat => ⟨[(0,.v (.int .i64 done)),(1,.v (.int .i64 (many + 1))),(2,.v (.eptr (heardL h))),(3,.v (.eptr [letrsA l])),(4,.v (.ptr bx 0)),(21,.v (letrsA l)),(22,.v (.int .i64 l.length)),(23,.v (.int .i64 i))],[],[],m⟩)
   (fun i => i ≤ l.length ∧ l.findSome? F = (l.drop i).findSome? F) (fun i => l.length - i) 0 (fun _ => rfl) ⟨Nat.zero_le _,rfl⟩ (by simp only [heardL,letrsA]; (simp only [FE,↓FP,seval]); repeat' (first | rfl | apply And.intro)) ?_
  rintro i ⟨hi,hfi⟩
  simp only [heardL,letrsA]
  by_cases hil : i < l.length
  rotate_left
  ·have z1 : ((i : Int) < (l.length : Int)) = False := eq_false (by omega)
   rw [hfi,List.drop_eq_nil_of_le (by omega)]
   simp(maxSteps:=9^9)only[↓VX,VQ,seval,z1]
   try rfl
  have z1 : ((i : Int) < (l.length : Int)) = True := eq_true (by omega)
  have hmem : l[i]! ∈ l := by rw [getD_any hil]; exact List.getElem_mem hil
  obtain ⟨hs0,hc0⟩ := hc _ hmem
  have hg := hg _ hmem
  rw [find_drop hil,hF] at hfi
  obtain ⟨x,hx⟩ : ∃ x,x = l[i]! := ⟨_,rfl⟩
  have hmany0 : (many : Int) + 1 - 1 = many := by omega
  rw [← hx] at hfi hmem hs0 hc0 hg
  simp(maxSteps:=9^9)only[↓VX,VQ,seval,z1,hm,← hx]
  have e0 : optT none = ⟨#[]⟩ := rfl
  have e1 : ∀ s,optT (some s) = textB s := fun s => rfl
  refine ⟨⟨by omega,hil⟩,fun hsl => ?_,fun hsl => ?_⟩
  ·rw [if_pos hsl] at hfi
   refine ⟨⟨by omega,by omega⟩,?_⟩
   rw [hmany0]
   refine ACall.told ih0 ?_
   rintro r m' ⟨rfl,rfl⟩
   clear ih0
   cases A with
   | none =>
    rcases Decidable.em (done < h.length) with q | q
    rotate_left
    ·have zq : ((done : Int) < (h.length : Int)) = False := eq_false (by omega)
     rw [if_neg q] at hfi
     try simp(maxSteps:=9^9)only[↓VX,VQ,seval,e0,e1,Option.isSome_none,Option.isSome_some]
     (refine adraw (by first | exact envOk _ | exact envCOk _ _ _) mixed [⟨false,false,0⟩,⟨false,false,0⟩,⟨false,false,0⟩,⟨false,false,0⟩,⟨false,false,0⟩,⟨false,false,0⟩,⟨false,false,0⟩,⟨false,false,0⟩,⟨false,false,0⟩,⟨false,false,0⟩,⟨false,false,0⟩,⟨false,false,0⟩] (by kernel_rfl) ?_; show vcOpsD _ _ _ (_ :: _) _ _)
     simp(maxSteps:=9^9)only[↓VX,VQ,seval,zq]
     have hfi2 : l.findSome? F = (l.drop (i + 1)).findSome? F := by rw [hfi]; rfl
     refine ⟨⟨by omega,by omega⟩,i + 1,⟨by omega,hfi2⟩,by dsimp only; omega,?_⟩
     (simp only [FE,↓FP,seval])
     try simp [heardL,letrsA]
    have zq : ((done : Int) < (h.length : Int)) = True := eq_true (by omega)
    have hdr := snd_drop hh q
    have hgd := hg h[done]! (by have := hk h[done]! (by rw [getElem!_pos h done q]; exact List.getElem_mem q); omega)
    rw [if_pos q] at hfi
    try simp(maxSteps:=9^9)only[↓VX,VQ,seval,e0,e1,Option.isSome_none,Option.isSome_some]
    (refine adraw (by first | exact envOk _ | exact envCOk _ _ _) mixed [⟨false,false,0⟩,⟨false,false,0⟩,⟨false,false,0⟩,⟨false,false,0⟩,⟨false,false,0⟩,⟨false,false,0⟩,⟨false,false,0⟩,⟨false,false,0⟩,⟨false,false,0⟩,⟨false,false,0⟩,⟨false,false,0⟩,⟨false,false,0⟩] (by kernel_rfl) ?_; show vcOpsD _ _ _ (_ :: _) _ _)
    simp(maxSteps:=9^9)only[↓VX,VQ,seval,zq,hdr]
    refine ⟨⟨by omega,by omega⟩,by omega,?_⟩
    (refine ⟨_,.inl (hgd),?_⟩; try simp(maxSteps:=9^9)only[↓VX,VQ,seval])
    try simp(maxSteps:=9^9)only[↓VX,VQ,seval,hm]
    refine ⟨fun hG => ?_,fun hG => ?_⟩
    rotate_left
    ·rw [if_neg hG] at hfi
     have hfi2 : l.findSome? F = (l.drop (i + 1)).findSome? F := by rw [hfi]; rfl
     refine ⟨⟨by omega,by omega⟩,i + 1,⟨by omega,hfi2⟩,by dsimp only; omega,?_⟩
     (simp only [FE,↓FP,seval])
     try simp [heardL,letrsA]
    rw [if_pos hG] at hfi
    refine ⟨⟨by omega,by omega⟩,⟨by omega,by omega⟩,?_⟩
    rw [hmany0]
    refine ACall.told (ih1 (by omega)) ?_
    rintro r m' ⟨rfl,rfl⟩
    clear ih1
    cases B with
    | none =>
     simp(maxSteps:=9^9)only[↓VX,VQ,seval,e0,e1,Option.isSome_none,Option.isSome_some]
     have hfi2 : l.findSome? F = (l.drop (i + 1)).findSome? F := by rw [hfi]; rfl
     refine ⟨⟨by omega,by omega⟩,i + 1,⟨by omega,hfi2⟩,by dsimp only; omega,?_⟩
     (simp only [FE,↓FP,seval])
     try simp [heardL,letrsA]
    | some t =>
     simp(maxSteps:=9^9)only[↓VX,VQ,seval,e0,e1,Option.isSome_none,Option.isSome_some]
     have hfi2 : l.findSome? F = some (x.c :: t) := by rw [hfi]; rfl
     have hsz := encode_size (c := x.c) (by omega) (t := t) (by have := (hB t rfl).1; omega)
     refine acut_all (V := vcW _) (fun h hd _ _ _ hi hf hs _ _ _ hn => vcW_sound (envCOk _ _ _) h hd hi hf hs hn) rfl (fun _ : Unit => ⟨[(7,.v (.str (textB (x.c :: t)))),(8,.v (.bool true))],[],[],m'⟩) (fun _ => True) (fun _ => rfl) ?_ ?_
     ·refine vcAll_cons (vcW_other rfl ?_)
      simp(maxSteps:=9^9)only[↓VX,VQ,seval]
      refine vcAll_cons (vcW_other rfl ?_)
      simp(maxSteps:=9^9)only[↓VX,VQ,seval]
      refine vcAll_cons (vcW_convO rfl ?_)
      simp(maxSteps:=9^9)only[↓VX,VQ,seval]
      refine ⟨⟨by rw [show IntKind.i32.min = -2147483648 from rfl]; omega,by rw [show IntKind.i32.max = 2147483647 from rfl]; omega⟩,?_⟩
      refine vcAll_cons (vcW_conv rfl ?_)
      simp(maxSteps:=9^9)only[↓VX,VQ,seval,vcConvS]
      refine vcAll_cons (vcW_other rfl ?_)
      simp(maxSteps:=9^9)only[↓VX,VQ,seval]
      refine vcAll_cons (vcW_other rfl ?_)
      simp(maxSteps:=9^9)only[↓VX,VQ,seval]
      rw [encode_letter (by omega)]
      refine ⟨hsz,?_⟩
      refine vcAll_cons (vcW_other rfl ?_)
      simp(maxSteps:=9^9)only[↓VX,VQ,seval]
      refine vcAll_cons (vcW_other rfl ?_)
      simp(maxSteps:=9^9)only[↓VX,VQ,seval]
      refine ⟨(),?_⟩
      (simp only [FE,↓FP,seval])
     rintro _ _
     simp(maxSteps:=9^9)only[↓VX,VQ,seval]
     rw [hfi2]
     rfl
   | some s =>
    rcases Decidable.em (done < h.length) with q | q
    rotate_left
    ·have zq : ((done : Int) < (h.length : Int)) = False := eq_false (by omega)
     rw [if_neg q] at hfi
     try simp(maxSteps:=9^9)only[↓VX,VQ,seval,e0,e1,Option.isSome_none,Option.isSome_some]
     (refine adraw (by first | exact envOk _ | exact envCOk _ _ _) mixed [⟨false,false,0⟩,⟨false,false,0⟩,⟨false,false,0⟩,⟨false,false,0⟩,⟨false,false,0⟩,⟨false,false,0⟩,⟨false,false,0⟩,⟨false,false,0⟩,⟨false,false,0⟩,⟨false,false,0⟩,⟨false,false,0⟩,⟨false,false,0⟩] (by kernel_rfl) ?_; show vcOpsD _ _ _ (_ :: _) _ _)
     simp(maxSteps:=9^9)only[↓VX,VQ,seval,zq]
     have hfi2 : l.findSome? F = some (x.c :: s) := by rw [hfi]; rfl
     have hsz := encode_size (c := x.c) (by omega) (t := s) (by have := (hA s rfl).1; omega)
     refine acut_all (V := vcW _) (fun h hd _ _ _ hi hf hs _ _ _ hn => vcW_sound (envCOk _ _ _) h hd hi hf hs hn) rfl (fun _ : Unit => ⟨[(7,.v (.str (textB (x.c :: s)))),(8,.v (.bool true))],[],[],m'⟩) (fun _ => True) (fun _ => rfl) ?_ ?_
     ·refine vcAll_cons (vcW_other rfl ?_)
      simp(maxSteps:=9^9)only[↓VX,VQ,seval]
      refine vcAll_cons (vcW_other rfl ?_)
      simp(maxSteps:=9^9)only[↓VX,VQ,seval]
      refine vcAll_cons (vcW_convO rfl ?_)
      simp(maxSteps:=9^9)only[↓VX,VQ,seval]
      refine ⟨⟨by rw [show IntKind.i32.min = -2147483648 from rfl]; omega,by rw [show IntKind.i32.max = 2147483647 from rfl]; omega⟩,?_⟩
      refine vcAll_cons (vcW_conv rfl ?_)
      simp(maxSteps:=9^9)only[↓VX,VQ,seval,vcConvS]
      refine vcAll_cons (vcW_other rfl ?_)
      simp(maxSteps:=9^9)only[↓VX,VQ,seval]
      refine vcAll_cons (vcW_other rfl ?_)
      simp(maxSteps:=9^9)only[↓VX,VQ,seval]
      rw [encode_letter (by omega)]
      refine ⟨hsz,?_⟩
      refine vcAll_cons (vcW_other rfl ?_)
      simp(maxSteps:=9^9)only[↓VX,VQ,seval]
      refine vcAll_cons (vcW_other rfl ?_)
      simp(maxSteps:=9^9)only[↓VX,VQ,seval]
      refine ⟨(),?_⟩
      (simp only [FE,↓FP,seval])
     rintro _ _
     simp(maxSteps:=9^9)only[↓VX,VQ,seval]
     rw [hfi2]
     rfl
    have zq : ((done : Int) < (h.length : Int)) = True := eq_true (by omega)
    have hdr := snd_drop hh q
    have hgd := hg h[done]! (by have := hk h[done]! (by rw [getElem!_pos h done q]; exact List.getElem_mem q); omega)
    rw [if_pos q] at hfi
    try simp(maxSteps:=9^9)only[↓VX,VQ,seval,e0,e1,Option.isSome_none,Option.isSome_some]
    (refine adraw (by first | exact envOk _ | exact envCOk _ _ _) mixed [⟨false,false,0⟩,⟨false,false,0⟩,⟨false,false,0⟩,⟨false,false,0⟩,⟨false,false,0⟩,⟨false,false,0⟩,⟨false,false,0⟩,⟨false,false,0⟩,⟨false,false,0⟩,⟨false,false,0⟩,⟨false,false,0⟩,⟨false,false,0⟩] (by kernel_rfl) ?_; show vcOpsD _ _ _ (_ :: _) _ _)
    simp(maxSteps:=9^9)only[↓VX,VQ,seval,zq,hdr]
    refine ⟨⟨by omega,by omega⟩,by omega,?_⟩
    (refine ⟨_,.inl (hgd),?_⟩; try simp(maxSteps:=9^9)only[↓VX,VQ,seval])
    try simp(maxSteps:=9^9)only[↓VX,VQ,seval,hm]
    refine ⟨fun hG => ?_,fun hG => ?_⟩
    rotate_left
    ·rw [if_neg hG] at hfi
     have hfi2 : l.findSome? F = some (x.c :: s) := by rw [hfi]; rfl
     have hsz := encode_size (c := x.c) (by omega) (t := s) (by have := (hA s rfl).1; omega)
     refine acut_all (V := vcW _) (fun h hd _ _ _ hi hf hs _ _ _ hn => vcW_sound (envCOk _ _ _) h hd hi hf hs hn) rfl (fun _ : Unit => ⟨[(7,.v (.str (textB (x.c :: s)))),(8,.v (.bool true))],[],[],m'⟩) (fun _ => True) (fun _ => rfl) ?_ ?_
     ·refine vcAll_cons (vcW_other rfl ?_)
      simp(maxSteps:=9^9)only[↓VX,VQ,seval]
      refine vcAll_cons (vcW_other rfl ?_)
      simp(maxSteps:=9^9)only[↓VX,VQ,seval]
      refine vcAll_cons (vcW_convO rfl ?_)
      simp(maxSteps:=9^9)only[↓VX,VQ,seval]
      refine ⟨⟨by rw [show IntKind.i32.min = -2147483648 from rfl]; omega,by rw [show IntKind.i32.max = 2147483647 from rfl]; omega⟩,?_⟩
      refine vcAll_cons (vcW_conv rfl ?_)
      simp(maxSteps:=9^9)only[↓VX,VQ,seval,vcConvS]
      refine vcAll_cons (vcW_other rfl ?_)
      simp(maxSteps:=9^9)only[↓VX,VQ,seval]
      refine vcAll_cons (vcW_other rfl ?_)
      simp(maxSteps:=9^9)only[↓VX,VQ,seval]
      rw [encode_letter (by omega)]
      refine ⟨hsz,?_⟩
      refine vcAll_cons (vcW_other rfl ?_)
      simp(maxSteps:=9^9)only[↓VX,VQ,seval]
      refine vcAll_cons (vcW_other rfl ?_)
      simp(maxSteps:=9^9)only[↓VX,VQ,seval]
      refine ⟨(),?_⟩
      (simp only [FE,↓FP,seval])
     rintro _ _
     simp(maxSteps:=9^9)only[↓VX,VQ,seval]
     rw [hfi2]
     rfl
    rw [if_pos hG] at hfi
    refine ⟨⟨by omega,by omega⟩,⟨by omega,by omega⟩,?_⟩
    rw [hmany0]
    refine ACall.told (ih1 (by omega)) ?_
    rintro r m' ⟨rfl,rfl⟩
    clear ih1
    cases B with
    | none =>
     simp(maxSteps:=9^9)only[↓VX,VQ,seval,e0,e1,Option.isSome_none,Option.isSome_some]
     have hfi2 : l.findSome? F = some (x.c :: s) := by rw [hfi]; rfl
     have hsz := encode_size (c := x.c) (by omega) (t := s) (by have := (hA s rfl).1; omega)
     refine acut_all (V := vcW _) (fun h hd _ _ _ hi hf hs _ _ _ hn => vcW_sound (envCOk _ _ _) h hd hi hf hs hn) rfl (fun _ : Unit => ⟨[(7,.v (.str (textB (x.c :: s)))),(8,.v (.bool true))],[],[],m'⟩) (fun _ => True) (fun _ => rfl) ?_ ?_
     ·refine vcAll_cons (vcW_other rfl ?_)
      simp(maxSteps:=9^9)only[↓VX,VQ,seval]
      refine vcAll_cons (vcW_other rfl ?_)
      simp(maxSteps:=9^9)only[↓VX,VQ,seval]
      refine vcAll_cons (vcW_convO rfl ?_)
      simp(maxSteps:=9^9)only[↓VX,VQ,seval]
      refine ⟨⟨by rw [show IntKind.i32.min = -2147483648 from rfl]; omega,by rw [show IntKind.i32.max = 2147483647 from rfl]; omega⟩,?_⟩
      refine vcAll_cons (vcW_conv rfl ?_)
      simp(maxSteps:=9^9)only[↓VX,VQ,seval,vcConvS]
      refine vcAll_cons (vcW_other rfl ?_)
      simp(maxSteps:=9^9)only[↓VX,VQ,seval]
      refine vcAll_cons (vcW_other rfl ?_)
      simp(maxSteps:=9^9)only[↓VX,VQ,seval]
      rw [encode_letter (by omega)]
      refine ⟨hsz,?_⟩
      refine vcAll_cons (vcW_other rfl ?_)
      simp(maxSteps:=9^9)only[↓VX,VQ,seval]
      refine vcAll_cons (vcW_other rfl ?_)
      simp(maxSteps:=9^9)only[↓VX,VQ,seval]
      refine ⟨(),?_⟩
      (simp only [FE,↓FP,seval])
     rintro _ _
     simp(maxSteps:=9^9)only[↓VX,VQ,seval]
     rw [hfi2]
     rfl
    | some t =>
     simp(maxSteps:=9^9)only[↓VX,VQ,seval,e0,e1,Option.isSome_none,Option.isSome_some]
     have hord := hord s t rfl rfl
     refine Or.elim (Decidable.em (orderL l t s < 0)) (fun qo => ?_) (fun qo => ?_)
     ·have zo : (orderL l t s < 0) = True := eq_true qo
      refine ACall.pure hord ?_
      simp(maxSteps:=9^9)only[↓VX,VQ,seval,zo]
      have hfi2 : l.findSome? F = some (x.c :: t) := by rw [hfi]; simp only [pickT,if_pos qo]; rfl
      have hsz := encode_size (c := x.c) (by omega) (t := t) (by have := (hB t rfl).1; omega)
      refine acut_all (V := vcW _) (fun h hd _ _ _ hi hf hs _ _ _ hn => vcW_sound (envCOk _ _ _) h hd hi hf hs hn) rfl (fun _ : Unit => ⟨[(7,.v (.str (textB (x.c :: t)))),(8,.v (.bool true))],[],[],m'⟩) (fun _ => True) (fun _ => rfl) ?_ ?_
      ·refine vcAll_cons (vcW_other rfl ?_)
       simp(maxSteps:=9^9)only[↓VX,VQ,seval]
       refine vcAll_cons (vcW_other rfl ?_)
       simp(maxSteps:=9^9)only[↓VX,VQ,seval]
       refine vcAll_cons (vcW_convO rfl ?_)
       simp(maxSteps:=9^9)only[↓VX,VQ,seval]
       refine ⟨⟨by rw [show IntKind.i32.min = -2147483648 from rfl]; omega,by rw [show IntKind.i32.max = 2147483647 from rfl]; omega⟩,?_⟩
       refine vcAll_cons (vcW_conv rfl ?_)
       simp(maxSteps:=9^9)only[↓VX,VQ,seval,vcConvS]
       refine vcAll_cons (vcW_other rfl ?_)
       simp(maxSteps:=9^9)only[↓VX,VQ,seval]
       refine vcAll_cons (vcW_other rfl ?_)
       simp(maxSteps:=9^9)only[↓VX,VQ,seval]
       rw [encode_letter (by omega)]
       refine ⟨hsz,?_⟩
       refine vcAll_cons (vcW_other rfl ?_)
       simp(maxSteps:=9^9)only[↓VX,VQ,seval]
       refine vcAll_cons (vcW_other rfl ?_)
       simp(maxSteps:=9^9)only[↓VX,VQ,seval]
       refine ⟨(),?_⟩
       (simp only [FE,↓FP,seval])
      rintro _ _
      simp(maxSteps:=9^9)only[↓VX,VQ,seval]
      rw [hfi2]
      rfl
     ·have zo : (orderL l t s < 0) = False := eq_false qo
      refine ACall.pure hord ?_
      simp(maxSteps:=9^9)only[↓VX,VQ,seval,zo]
      have hfi2 : l.findSome? F = some (x.c :: s) := by rw [hfi]; simp only [pickT,if_neg qo]; rfl
      have hsz := encode_size (c := x.c) (by omega) (t := s) (by have := (hA s rfl).1; omega)
      refine acut_all (V := vcW _) (fun h hd _ _ _ hi hf hs _ _ _ hn => vcW_sound (envCOk _ _ _) h hd hi hf hs hn) rfl (fun _ : Unit => ⟨[(7,.v (.str (textB (x.c :: s)))),(8,.v (.bool true))],[],[],m'⟩) (fun _ => True) (fun _ => rfl) ?_ ?_
      ·refine vcAll_cons (vcW_other rfl ?_)
       simp(maxSteps:=9^9)only[↓VX,VQ,seval]
       refine vcAll_cons (vcW_other rfl ?_)
       simp(maxSteps:=9^9)only[↓VX,VQ,seval]
       refine vcAll_cons (vcW_convO rfl ?_)
       simp(maxSteps:=9^9)only[↓VX,VQ,seval]
       refine ⟨⟨by rw [show IntKind.i32.min = -2147483648 from rfl]; omega,by rw [show IntKind.i32.max = 2147483647 from rfl]; omega⟩,?_⟩
       refine vcAll_cons (vcW_conv rfl ?_)
       simp(maxSteps:=9^9)only[↓VX,VQ,seval,vcConvS]
       refine vcAll_cons (vcW_other rfl ?_)
       simp(maxSteps:=9^9)only[↓VX,VQ,seval]
       refine vcAll_cons (vcW_other rfl ?_)
       simp(maxSteps:=9^9)only[↓VX,VQ,seval]
       rw [encode_letter (by omega)]
       refine ⟨hsz,?_⟩
       refine vcAll_cons (vcW_other rfl ?_)
       simp(maxSteps:=9^9)only[↓VX,VQ,seval]
       refine vcAll_cons (vcW_other rfl ?_)
       simp(maxSteps:=9^9)only[↓VX,VQ,seval]
       refine ⟨(),?_⟩
       (simp only [FE,↓FP,seval])
      rintro _ _
      simp(maxSteps:=9^9)only[↓VX,VQ,seval]
      rw [hfi2]
      rfl
  ·rw [if_neg hsl] at hfi
   clear ih0
   obtain ⟨m',rfl⟩ : ∃ m',m' = m := ⟨m,rfl⟩
   rcases Decidable.em (done < h.length) with q | q
   rotate_left
   ·have zq : ((done : Int) < (h.length : Int)) = False := eq_false (by omega)
    rw [if_neg q] at hfi
    try simp(maxSteps:=9^9)only[↓VX,VQ,seval,e0,e1,Option.isSome_none,Option.isSome_some]
    (refine adraw (by first | exact envOk _ | exact envCOk _ _ _) mixed [⟨false,false,0⟩,⟨false,false,0⟩,⟨false,false,0⟩,⟨false,false,0⟩,⟨false,false,0⟩,⟨false,false,0⟩,⟨false,false,0⟩,⟨false,false,0⟩,⟨false,false,0⟩,⟨false,false,0⟩,⟨false,false,0⟩,⟨false,false,0⟩] (by kernel_rfl) ?_; show vcOpsD _ _ _ (_ :: _) _ _)
    simp(maxSteps:=9^9)only[↓VX,VQ,seval,zq]
    have hfi2 : l.findSome? F = (l.drop (i + 1)).findSome? F := by rw [hfi]; rfl
    refine ⟨⟨by omega,by omega⟩,i + 1,⟨by omega,hfi2⟩,by dsimp only; omega,?_⟩
    (simp only [FE,↓FP,seval])
    try simp [heardL,letrsA]
   have zq : ((done : Int) < (h.length : Int)) = True := eq_true (by omega)
   have hdr := snd_drop hh q
   have hgd := hg h[done]! (by have := hk h[done]! (by rw [getElem!_pos h done q]; exact List.getElem_mem q); omega)
   rw [if_pos q] at hfi
   try simp(maxSteps:=9^9)only[↓VX,VQ,seval,e0,e1,Option.isSome_none,Option.isSome_some]
   (refine adraw (by first | exact envOk _ | exact envCOk _ _ _) mixed [⟨false,false,0⟩,⟨false,false,0⟩,⟨false,false,0⟩,⟨false,false,0⟩,⟨false,false,0⟩,⟨false,false,0⟩,⟨false,false,0⟩,⟨false,false,0⟩,⟨false,false,0⟩,⟨false,false,0⟩,⟨false,false,0⟩,⟨false,false,0⟩] (by kernel_rfl) ?_; show vcOpsD _ _ _ (_ :: _) _ _)
   simp(maxSteps:=9^9)only[↓VX,VQ,seval,zq,hdr]
   refine ⟨⟨by omega,by omega⟩,by omega,?_⟩
   (refine ⟨_,.inl (hgd),?_⟩; try simp(maxSteps:=9^9)only[↓VX,VQ,seval])
   try simp(maxSteps:=9^9)only[↓VX,VQ,seval,hm]
   refine ⟨fun hG => ?_,fun hG => ?_⟩
   rotate_left
   ·rw [if_neg hG] at hfi
    have hfi2 : l.findSome? F = (l.drop (i + 1)).findSome? F := by rw [hfi]; rfl
    refine ⟨⟨by omega,by omega⟩,i + 1,⟨by omega,hfi2⟩,by dsimp only; omega,?_⟩
    (simp only [FE,↓FP,seval])
    try simp [heardL,letrsA]
   rw [if_pos hG] at hfi
   refine ⟨⟨by omega,by omega⟩,⟨by omega,by omega⟩,?_⟩
   rw [hmany0]
   refine ACall.told (ih1 (by omega)) ?_
   rintro r m' ⟨rfl,rfl⟩
   clear ih1
   cases B with
   | none =>
    simp(maxSteps:=9^9)only[↓VX,VQ,seval,e0,e1,Option.isSome_none,Option.isSome_some]
    have hfi2 : l.findSome? F = (l.drop (i + 1)).findSome? F := by rw [hfi]; rfl
    refine ⟨⟨by omega,by omega⟩,i + 1,⟨by omega,hfi2⟩,by dsimp only; omega,?_⟩
    (simp only [FE,↓FP,seval])
    try simp [heardL,letrsA]
   | some t =>
    simp(maxSteps:=9^9)only[↓VX,VQ,seval,e0,e1,Option.isSome_none,Option.isSome_some]
    have hfi2 : l.findSome? F = some (x.c :: t) := by rw [hfi]; rfl
    have hsz := encode_size (c := x.c) (by omega) (t := t) (by have := (hB t rfl).1; omega)
    refine acut_all (V := vcW _) (fun h hd _ _ _ hi hf hs _ _ _ hn => vcW_sound (envCOk _ _ _) h hd hi hf hs hn) rfl (fun _ : Unit => ⟨[(7,.v (.str (textB (x.c :: t)))),(8,.v (.bool true))],[],[],m'⟩) (fun _ => True) (fun _ => rfl) ?_ ?_
    ·refine vcAll_cons (vcW_other rfl ?_)
     simp(maxSteps:=9^9)only[↓VX,VQ,seval]
     refine vcAll_cons (vcW_other rfl ?_)
     simp(maxSteps:=9^9)only[↓VX,VQ,seval]
     refine vcAll_cons (vcW_convO rfl ?_)
     simp(maxSteps:=9^9)only[↓VX,VQ,seval]
     refine ⟨⟨by rw [show IntKind.i32.min = -2147483648 from rfl]; omega,by rw [show IntKind.i32.max = 2147483647 from rfl]; omega⟩,?_⟩
     refine vcAll_cons (vcW_conv rfl ?_)
     simp(maxSteps:=9^9)only[↓VX,VQ,seval,vcConvS]
     refine vcAll_cons (vcW_other rfl ?_)
     simp(maxSteps:=9^9)only[↓VX,VQ,seval]
     refine vcAll_cons (vcW_other rfl ?_)
     simp(maxSteps:=9^9)only[↓VX,VQ,seval]
     rw [encode_letter (by omega)]
     refine ⟨hsz,?_⟩
     refine vcAll_cons (vcW_other rfl ?_)
     simp(maxSteps:=9^9)only[↓VX,VQ,seval]
     refine vcAll_cons (vcW_other rfl ?_)
     simp(maxSteps:=9^9)only[↓VX,VQ,seval]
     refine ⟨(),?_⟩
     (simp only [FE,↓FP,seval])
    rintro _ _
    simp(maxSteps:=9^9)only[↓VX,VQ,seval]
    rw [hfi2]
    rfl
end Go.Proofs.YtdmejgfcaacdoaaGreat.Abs
