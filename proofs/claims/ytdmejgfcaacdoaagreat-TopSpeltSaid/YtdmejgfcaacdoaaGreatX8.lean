/- Lemmas for the statements of this seat (X8): they hold without conditions beyond those that each one states. -/
import Derived.Test.YtdmejgfcaacdoaaGreatX7
import Derived.Test.YtdmejgfcaacdoaaGreatX6
/- Statements whose order is open,part 6: one walk in the text's order serves every order. -/
namespace Go.Proofs.YtdmejgfcaacdoaaGreat.Abs
set_option linter.unusedSimpArgs false
open Go Go.RowKit
section
variable {E : Env}
def dOp (E : Env) (lin hs : Nat → Bool) (ks : Nat → Nat) (ops : Array Oper) (i : Nat) (K : St → Prop) (st : St) : Prop :=
 match ops[i]? with
 | none => K st
 | some o => DActS E lin (hs i) (ks i) ops o st fun tk e => K (DTo o tk e st)
def dAny (E : Env) (lin hs : Nat → Bool) (ks : Nat → Nat) (ops : Array Oper) (Q : St → Prop) : Nat → Array Bool → St → Prop
 | 0,listed,st => Region.ready .any ops listed = [] ∧ Q st
 | fuel + 1,listed,st => (Region.ready .any ops listed = [] → Q st) ∧ ∀ i ∈ Region.ready .any ops listed,dOp E lin hs ks ops i (dAny E lin hs ks ops Q fuel (listed.setIfInBounds i true)) st
theorem DActS.mono {lin : Nat → Bool} {hide : Bool} {k : Nat} {ops : Array Oper} {o : Oper} {st : St} {S S' : Option Nat → Eff → Prop} (h : DActS E lin hide k ops o st S) (hs : ∀ tk e,S tk e → S' tk e) : DActS E lin hide k ops o st S' := by
 rcases h with ⟨tk,e,h,hS⟩ | ⟨k2,hh,hg,c,f,hop,hcf,hlen,h⟩ | ⟨k2,hh,hg,hop,h⟩
 ·exact .inl ⟨tk,e,h,hs _ _ hS⟩
 ·exact .inr (.inl ⟨k2,hh,hg,c,f,hop,hcf,hlen,vcCallS_mono h fun x m hx => hs _ _ hx⟩)
 ·exact .inr (.inr ⟨k2,hh,hg,hop,vcAppE_congr (fun _ _ _ => rfl) rfl h fun x m hx => hs _ _ hx⟩)
def behind (ops : Array Oper) : Nat → Nat → Nat → Bool
 | 0,_,_ => false
 | n + 1,j,i => match ops[j]? with
  | some oj => oj.after.any fun e => Region.binds .any e && (e.on == i || behind ops n e.on i)
  | none => false
def ClosedL (ops : Array Oper) (listed : Array Bool) : Prop := ∀ (k : Nat) (ok : Oper),ops[k]? = some ok → listed.getD (k) false = true → ∀ e ∈ ok.after,Region.binds .any e = true → listed.getD (e.on) false = true
theorem behind_listed {ops : Array Oper} {listed : Array Bool} (hc : ClosedL ops listed) {i : Nat} : ∀ (n j : Nat),(∀ oj,ops[j]? = some oj → ∀ e ∈ oj.after,Region.binds .any e = true → listed.getD (e.on) false = true) → behind ops n j i = true → listed.getD (i) false = true
 | 0,_,_,h => by simp [behind] at h
 | n + 1,j,ha,h => by
  unfold behind at h
  split at h
  ·rename_i oj hoj
   obtain ⟨e,he,hb⟩ := Array.any_eq_true'.1 h
   simp only [Bool.and_eq_true,Bool.or_eq_true,beq_iff_eq] at hb
   have hl := ha oj hoj e he hb.1
   rcases hb.2 with hb2 | hb2
   ·rw [← hb2]; exact hl
   ·exact behind_listed hc n e.on (fun ok hok => hc e.on ok hok hl) hb2
  ·cases h
theorem ClosedL.set {ops : Array Oper} {listed : Array Bool} (hc : ClosedL ops listed) {j : Nat} (hj : j ∈ Region.ready .any ops listed) : ClosedL ops (listed.setIfInBounds j true) := by
 obtain ⟨_,oj,hoj,hall⟩ := mem_ready.1 hj
 have mono : ∀ k,listed.getD k false = true → (listed.setIfInBounds j true).getD k false = true := fun k hk => by
  by_cases e : j = k
  ·subst e
   have : j < listed.size := by
    rcases Nat.lt_or_ge j listed.size with h | h
    ·exact h
    ·simp [Array.getElem?_eq_none h] at hk
   simp [this]
  ·rw [getD_set_ne false e]; exact hk
 intro k ok hk hl e he hb
 by_cases hkj : k = j
 ·subst hkj
  have hk : ops[k]? = some ok := hk
  rw [hoj] at hk
  injection hk with hk
  subst hk
  exact mono _ (hall e he hb)
 ·rw [getD_set_ne false (fun h => hkj h.symm)] at hl
  exact mono _ (hc k ok hk hl e he hb)
theorem dAny_first {lin hs : Nat → Bool} {ks : Nat → Nat} {ops : Array Oper} {Q : St → Prop} {i : Nat} {oi : Oper} {tki : Option Nat} {ei : Eff} (hi : ops[i]? = some oi) : ∀ (fuel : Nat) (listed : Array Bool) (st : St),ClosedL ops listed →
  (∀ j oj,ops[j]? = some oj → j ≠ i → listed.getD j true = false → behind ops 5 j i = false → PairOk lin ops oi oj (hs i) (hs j) (ks i) (ks j)) →
  i ∈ Region.ready .any ops listed → DAct E lin (hs i) (ks i) ops oi st tki ei → dAny E lin hs ks ops Q fuel (listed.setIfInBounds i true) (DTo oi tki ei st) → dAny E lin hs ks ops Q (fuel + 1) listed st := by
 intro fuel
 have self : ∀ (fuel : Nat) (listed : Array Bool) (st : St),DAct E lin (hs i) (ks i) ops oi st tki ei → dAny E lin hs ks ops Q fuel (listed.setIfInBounds i true) (DTo oi tki ei st) →
   dOp E lin hs ks ops i (dAny E lin hs ks ops Q fuel (listed.setIfInBounds i true)) st := by
  intro fuel listed st h1 h2
  unfold dOp
  rw [hi]
  exact .inl ⟨tki,ei,h1,h2⟩
 induction fuel with
 | zero =>
  intro listed st _ _ hr hy H
  refine ⟨fun h => (by rw [h] at hr; cases hr),fun j hj => ?_⟩
  by_cases hji : j = i
  ·subst hji; exact self _ _ _ hy H
  ·have := ready_mono hj hji
   rw [H.1] at this
   cases this
 | succ fuel ih =>
  intro listed st hcl hfree hr hy H
  refine ⟨fun h => (by rw [h] at hr; cases hr),fun j hj => ?_⟩
  by_cases hji : j = i
  ·subst hji; exact self _ _ _ hy H
  ·have h1 := H.2 j (ready_mono hj hji)
   obtain ⟨hjun,oj,hoj,hall⟩ := mem_ready.1 hj
   have hnot : behind ops 5 j i = false := by
    cases hb : behind ops 5 j i with
    | false => rfl
    | true =>
     have h1 := behind_listed hcl 5 j (fun ok hok => by rw [hoj] at hok; injection hok with hok; subst hok; exact hall) hb
     have h0 := (mem_ready.1 hr).1
     rcases Nat.lt_or_ge i listed.size with h' | h'
     ·simp [h'] at h0 h1; rw [h0] at h1; cases h1
     ·simp [Array.getElem?_eq_none h'] at h1
   have hfree' : ∀ k ok,ops[k]? = some ok → k ≠ i → (listed.setIfInBounds j true).getD k true = false → behind ops 5 k i = false → PairOk lin ops oi ok (hs i) (hs k) (ks i) (ks k) := fun k ok hk hki hun hno => by
    refine hfree k ok hk hki ?_ hno
    by_cases hjk : j = k
    ·subst hjk; exact hjun
    ·rw [getD_set_ne true hjk] at hun; exact hun
   unfold dOp at h1 ⊢
   rw [hoj] at h1 ⊢
   refine (dswap (hfree j oj hoj hji hjun hnot) hy h1).mono ?_
   rintro tkj ej ⟨h3,s2,s3⟩
   refine ih (listed.setIfInBounds j true) _ (hcl.set hj) hfree' (ready_mono hr (Ne.symm hji)) s2 ?_
   rw [Array.setIfInBounds_comm _ _ hji,← s3]
   exact h3
theorem dAny_alone {lin hs : Nat → Bool} {ks : Nat → Nat} {ops : Array Oper} {Q : St → Prop} {i : Nat} (fuel : Nat) (listed : Array Bool) (st : St) (hcl : ClosedL ops listed)
  (hfree : ∀ j oj,ops[j]? = some oj → j ≠ i → listed.getD j true = false → behind ops 5 j i = true) (hr : i ∈ Region.ready .any ops listed)
  (h : dOp E lin hs ks ops i (dAny E lin hs ks ops Q fuel (listed.setIfInBounds i true)) st) : dAny E lin hs ks ops Q (fuel + 1) listed st := by
 refine ⟨fun h => (by rw [h] at hr; cases hr),fun j hj => ?_⟩
 by_cases hji : j = i
 ·subst hji; exact h
 ·obtain ⟨hjun,oj,hoj,hall⟩ := mem_ready.1 hj
  have h1 := behind_listed hcl 5 j (fun ok hok => by rw [hoj] at hok; injection hok with hok; subst hok; exact hall) (hfree j oj hoj hji hjun)
  have h0 := (mem_ready.1 hr).1
  rcases Nat.lt_or_ge i listed.size with h' | h'
  ·simp [h'] at h0 h1; rw [h0] at h1; cases h1
  ·simp [Array.getElem?_eq_none h'] at h1
def calmB (oj : Oper) (kj ki : Nat) : Bool := (!(isWriter oj.op || (kj == 1 || kj == 2)) || (ki != 3 && (Nat.blt ki 4 || (kj != 1 && kj != 2 && storesAt oj (ki - 4))))) && (Nat.blt ki 4 || match oj.dst with | some d => d != ki - 4 | none => true)
theorem calmB_spec {oj : Oper} {kj ki : Nat} (h : calmB oj kj ki = true) : Calm oj kj ki := by
 unfold calmB at h
 rw [Bool.and_eq_true] at h
 obtain ⟨h1,h2⟩ := h
 have hlt : 4 ≤ ki → Nat.blt ki 4 = false := fun q => by
  cases hb : Nat.blt ki 4 with
  | false => rfl
  | true => rw [Nat.blt_eq] at hb; omega
 refine ⟨fun q => ?_,fun q => ?_⟩
 ·have : (isWriter oj.op || (kj == 1 || kj == 2)) = true := by simpa using q
  rw [this,Bool.not_true,Bool.false_or,Bool.and_eq_true] at h1
  refine ⟨by simpa using h1.1,fun q4 => ?_⟩
  have h3 := h1.2
  rw [hlt q4,Bool.false_or] at h3
  simp only [Bool.and_eq_true,bne_iff_ne] at h3
  exact h3
 ·rw [hlt q,Bool.false_or] at h2
  intro e
  rw [e] at h2
  simp at h2
def pairB (lin : Nat → Bool) (ops : Array Oper) (oi oj : Oper) (hi hj : Bool) (ki kj : Nat) : Bool :=
 oi.apart ops oj && (!loud kj oj || hi) && (!loud ki oi || hj || (!isWriter oi.op && (ki != 1 && (ki != 2 && isCallV oj)))) && calmB oj kj ki && calmB oi ki kj && (oi.looksAt ops).all fun t => !lin t || !(oj.looksAt ops).contains t
theorem pairB_spec {lin : Nat → Bool} {ops : Array Oper} {oi oj : Oper} {hi hj : Bool} {ki kj : Nat} (h : pairB lin ops oi oj hi hj ki kj = true) : PairOk lin ops oi oj hi hj ki kj := by
 simp only [pairB,Bool.and_eq_true,List.all_eq_true] at h
 obtain ⟨⟨⟨⟨⟨h1,h2⟩,h3⟩,m1⟩,m2⟩,h4⟩ := h
 simp only [Bool.or_eq_true,Bool.not_eq_true'] at h2 h4
 refine ⟨h1,fun e => ?_,fun e => ?_,calmB_spec m1,calmB_spec m2,fun t ht hi hj => ?_⟩
 ·rcases h2 with h2 | h2
  ·rw [e] at h2; cases h2
  ·exact h2
 ·cases hj0 : hj with
  | true => exact .inl rfl
  | false =>
   rw [e,hj0] at h3
   simp at h3
   exact .inr ⟨⟨h3.1,h3.2.1,h3.2.2.1⟩,h3.2.2.2⟩
 ·rcases h4 t hi with h | h
  ·rw [ht] at h; cases h
  ·simp at h; exact h hj
def freeB (lin hs : Nat → Bool) (ks : Nat → Nat) (ops : Array Oper) (listed : Array Bool) (i : Nat) : Bool :=
 match ops[i]? with
 | none => false
 | some oi => (List.range ops.size).all fun j => j == i || listed.getD j true || match ops[j]? with
   | some oj => (ks i != 2 && pairB lin ops oi oj (hs i) (hs j) (ks i) (ks j)) || behind ops 5 j i
   | none => true
theorem freeB_spec {lin hs : Nat → Bool} {ks : Nat → Nat} {ops : Array Oper} {i : Nat} {oi : Oper} {listed : Array Bool} (hi : ops[i]? = some oi) (h : freeB lin hs ks ops listed i = true) (j : Nat) (oj : Oper)
  (hj : ops[j]? = some oj) (hne : j ≠ i) (hun : listed.getD j true = false) : behind ops 5 j i = true ∨ (ks i ≠ 2 ∧ PairOk lin ops oi oj (hs i) (hs j) (ks i) (ks j)) := by
 simp only [freeB,hi,List.all_eq_true,List.mem_range] at h
 have h1 := h j (Array.getElem?_eq_some_iff.1 hj).1
 simp only [hj,Bool.or_eq_true,beq_iff_eq,hne,false_or,hun,Bool.false_eq_true] at h1
 rcases h1 with h1 | h1
 ·simp only [Bool.and_eq_true,bne_iff_ne] at h1
  exact .inr ⟨h1.1,pairB_spec h1.2⟩
 ·exact .inl h1
def lexD (lin hs : Nat → Bool) (ks : Nat → Nat) (ops : Array Oper) : Nat → Nat → Array Bool → Bool
 | 0,_,listed => (Region.ready .any ops listed).isEmpty
 | fuel + 1,k,listed => (Region.ready .any ops listed).contains k && freeB lin hs ks ops listed k && lexD lin hs ks ops fuel (k + 1) (listed.setIfInBounds k true)
def dLex (E : Env) (lin hs : Nat → Bool) (ks : Nat → Nat) (ops : Array Oper) (Q : St → Prop) : Nat → List Oper → St → Prop
 | _,[],st => Q st
 | i,o :: rest,st => DActS E lin (hs i) (ks i) ops o st fun tk e => dLex E lin hs ks ops Q (i + 1) rest (DTo o tk e st)
theorem dAny_lex {lin hs : Nat → Bool} {ks : Nat → Nat} {ops : Array Oper} {Q : St → Prop} : ∀ (l : List Oper) (k : Nat) (listed : Array Bool) (st : St),(∀ j,l[j]? = ops[k + j]?) → ClosedL ops listed → lexD lin hs ks ops l.length k listed = true →
  dLex E lin hs ks ops Q k l st → dAny E lin hs ks ops Q l.length listed st
 | [],_,_,_,_,_,hB,h => ⟨by simpa [lexD] using hB,h⟩
 | o :: l,k,listed,st,hl,hcl,hB,h => by
  have h0 : ops[k]? = some o := by simpa using (hl 0).symm
  simp only [List.length_cons,lexD,Bool.and_eq_true] at hB
  obtain ⟨⟨hr,hf⟩,hB'⟩ := hB
  have hsp := freeB_spec h0 hf
  have hl' : ∀ j,l[j]? = ops[k + 1 + j]? := fun j => by have := hl (j + 1); simpa [Nat.add_assoc,Nat.add_comm 1 j] using this
  have hr' : k ∈ Region.ready .any ops listed := by simpa using hr
  have hcl' := hcl.set hr'
  by_cases hk2 : ks k = 2
  ·refine dAny_alone l.length listed st hcl (fun j oj hj hne hun => ?_) hr' ?_
   ·rcases hsp j oj hj hne hun with h | ⟨h,_⟩
    ·exact h
    ·exact absurd hk2 h
   ·unfold dOp
    rw [h0]
    exact DActS.mono h fun tk e h => dAny_lex l (k + 1) _ _ hl' hcl' hB' h
  ·rcases h with ⟨tk,e,h1,h2⟩ | ⟨h,_⟩ | ⟨h,_⟩
   ·exact dAny_first h0 l.length listed st hcl (fun j oj hj hne hun hno => by
     rcases hsp j oj hj hne hun with hb | ⟨_,h⟩
     ·rw [hno] at hb; cases hb
     ·exact h) hr' h1 (dAny_lex l (k + 1) _ _ hl' hcl' hB' h2)
   ·exact absurd h hk2
   ·exact absurd h hk2
def dLexP (E : Env) (lin hs : Nat → Bool) (ks : Nat → Nat) (ops : Array Oper) (Q : St → Prop) : List Nat → St → Prop
 | [],st => Q st
 | i :: rest,st => DActS E lin (hs i) (ks i) ops ((ops.toList[i]?).getD default) st fun tk e => dLexP E lin hs ks ops Q rest (DTo ((ops.toList[i]?).getD default) tk e st)
def lexP (lin hs : Nat → Bool) (ks : Nat → Nat) (ops : Array Oper) : List Nat → Array Bool → Bool
 | [],listed => (Region.ready .any ops listed).isEmpty
 | k :: r,listed => (Region.ready .any ops listed).contains k && freeB lin hs ks ops listed k && lexP lin hs ks ops r (listed.setIfInBounds k true)
theorem dAny_lexP {lin hs : Nat → Bool} {ks : Nat → Nat} {ops : Array Oper} {Q : St → Prop} : ∀ (l : List Nat) (listed : Array Bool) (st : St),ClosedL ops listed → lexP lin hs ks ops l listed = true →
  dLexP E lin hs ks ops Q l st → dAny E lin hs ks ops Q l.length listed st
 | [],_,_,_,hB,h => ⟨by simpa [lexP] using hB,h⟩
 | k :: l,listed,st,hcl,hB,h => by
  simp only [lexP,Bool.and_eq_true] at hB
  obtain ⟨⟨hr,hf⟩,hB'⟩ := hB
  have hr' : k ∈ Region.ready .any ops listed := by simpa using hr
  obtain ⟨_,o,h0,_⟩ := mem_ready.1 hr'
  have ho : (ops.toList[k]?).getD default = o := by rw [Array.getElem?_toList,h0]; rfl
  have hsp := freeB_spec h0 hf
  have hcl' := hcl.set hr'
  unfold dLexP at h
  rw [ho] at h
  by_cases hk2 : ks k = 2
  ·refine dAny_alone l.length listed st hcl (fun j oj hj hne hun => ?_) hr' ?_
   ·rcases hsp j oj hj hne hun with h | ⟨h,_⟩
    ·exact h
    ·exact absurd hk2 h
   ·unfold dOp
    rw [h0]
    exact DActS.mono h fun tk e h => dAny_lexP l _ _ hcl' hB' h
  ·rcases h with ⟨tk,e,h1,h2⟩ | ⟨h,_⟩ | ⟨h,_⟩
   ·exact dAny_first h0 l.length listed st hcl (fun j oj hj hne hun hno => by
     rcases hsp j oj hj hne hun with hb | ⟨_,h⟩
     ·rw [hno] at hb; cases hb
     ·exact h) hr' h1 (dAny_lexP l _ _ hcl' hB' h2)
   ·exact absurd h hk2
   ·exact absurd h hk2
theorem wpAny_of_dAny (hE : EnvOk E) {r : Option Nat} {lin hs : Nat → Bool} {ks : Nat → Nat} {ops : Array Oper} {n : Nat} (hd : ops.toList.all (dstOk n) = true) {K : St → Prop} {Q : Exit → Act → World → Prop} {G0 : Gh} {w0 : World}
  (hQ : ∀ a w G st,Ext G0 w0 G w → Inv G w → FRel G w a st → a.tmps.size = n → K st → Q .normal a w) : ∀ (fuel : Nat) (listed : Array Bool) (st : St) (G : Gh) (w : World) (a : Act),Ext G0 w0 G w → Inv G w → FRel G w a st → a.tmps.size = n →
  dAny E lin hs ks ops K fuel listed st → wpAnyIn (fen r) 0 E.P .any ops Q fuel listed a w
 | 0,_,_,_,_,_,hx,hi,hf,hs,h => ⟨h.1,hQ _ _ _ _ hx hi hf hs h.2⟩
 | fuel + 1,listed,st,G,w,a,hx,hi,hf,hs,h => by
  refine ⟨fun e => hQ _ _ _ _ hx hi hf hs (h.1 e),fun i hr => ?_⟩
  have h1 := h.2 i hr
  unfold dOp at h1
  unfold wpOpIn
  split
  ·rename_i hn
   rw [hn] at h1
   exact wpAny_of_dAny hE hd hQ fuel _ _ G w a hx hi hf hs h1
  ·rename_i o ho
   rw [ho] at h1
   have hdo : dstOk n o = true := List.all_eq_true.1 hd o (by have := Array.mem_of_getElem? ho; simpa using this)
   exact dacts_sound hE h1 hi hf hs hdo fun tk e h3 a' w' G' hx' hi' hf' hs' => wpAny_of_dAny hE hd hQ fuel _ _ G' w' a' (hx.trans hx') hi' hf' hs' h3
/-! ### As conditions -/
def VPure (P : Program) (g : FuncId) (xs : List AV) (h : Bool) (m : Mem) (K : AV → Prop) (_t : Tag K) : Prop := ∃ r,LCall P g xs h m r ∧ K r
def vcCallD (E : Env) (h : Bool) (m : Mem) (f : SV) (xs : List SV) (K : AV → Prop) : Prop :=
 match f,avs xs with
 | .v (.fn (.func g) first caps),some ys => VPure E.P g (first ++ ys ++ caps) h m K .mk
 | _,_ => False
def vcTk (t : Option Operand) (l : Bool) : Prop := match t with
 | some (.tmp _) => l = true
 | _ => True
def vcNew (st : St) (d : Option Tmp) (e : Eff) : Prop := match e,d with
 | .new _ _,some d => st.loc d = none
 | _,_ => True
structure Fl where
 h : Bool
 l : Bool
 k : Nat
def VTold (P : Program) (g : FuncId) (xs : List AV) (m : Mem) (K : AV → Mem → Prop) (_t : Tag K) : Prop := ∃ r m1,ACall P g xs m (fun r' m' => r' = r ∧ m' = m1) ∧ K r m1
def vcCallT (E : Env) (f : SV) (xs : List SV) (m : Mem) (K : AV → Mem → Prop) : Prop :=
 match f,avs xs with
 | .v (.fn (.func g) first caps),some ys => VTold E.P g (first ++ ys ++ caps) m K .mk
 | _,_ => False
def vcOpD (E : Env) (o : Oper) (h l : Bool) (k : Nat) (K : St → Prop) (st : St) : Prop :=
 match o.op with
 | .call c => match c.callee with
  | .value f => c.argTypes.toList.length = c.args.toList.length ∧ match k with
   | 0 => vcCallD E h st.mem (st.sv E.T 0 f) ((c.argTypes.toList.zip c.args.toList).map fun p => st.sv E.T p.1 p.2) fun r => K (st.put o.dst (.v r) false)
   | 1 => h = false ∧ vcCallT E (st.sv E.T 0 f) ((c.argTypes.toList.zip c.args.toList).map fun p => st.sv E.T p.1 p.2) st.mem fun r m' => K ({ st with mem := m' }.put o.dst (.v r) false)
   | 2 => h = false ∧ vcCall E (st.sv E.T 0 f) ((c.argTypes.toList.zip c.args.toList).map fun p => st.sv E.T p.1 p.2) o.dst K st
   | _ => False
  | _ => if k = 2 then h = false ∧ vcAppE E o st fun e => K (st.eff o.dst e) else vcTk (takes o) l ∧ evD E o (st.sv E.T) st.ow (if h then noneF else st.loc) (if h then (if k = 0 then noneF else hidM o k st) else st.mem) fun e => vcNew st o.dst e ∧ K ((st.takeO (takes o)).eff o.dst e)
 | .move x | .assign x => if l = true then K ((st.take x).put o.dst (st.sv E.T o.type x) (st.ow x && isSlice (st.sv E.T o.type x))) else K (st.put o.dst (st.sv E.T o.type x) false)
 | .makeMap _ _ => if k = 2 then h = false ∧ vcAppE E o st fun e => K (st.eff o.dst e) else evD E o (st.sv E.T) st.ow (if h then noneF else st.loc) (if h then (if k = 0 then noneF else hidM o k st) else st.mem) fun e => vcNew st o.dst e ∧ K (st.eff o.dst e)
 | .box _ _ => if k = 2 then h = false ∧ vcAppE E o st fun e => K (st.eff o.dst e) else evD E o (st.sv E.T) st.ow (if h then noneF else st.loc) (if h then (if k = 0 then noneF else hidM o k st) else st.mem) fun e => vcNew st o.dst e ∧ K (st.eff o.dst e)
 | _ => evD E o (st.sv E.T) st.ow (if h then noneF else st.loc) (if h then (if k = 0 then noneF else hidM o k st) else st.mem) fun e => vcNew st o.dst e ∧ K (st.eff o.dst e)
def vcOpsD (E : Env) (ops : Array Oper) : List Fl → List Oper → (St → Prop) → St → Prop
 | _,[],K,st => K st
 | ⟨h,l,k⟩ :: fl,o :: rest,K,st => vcGuard ops o.guard (vcOpD E o h l k (vcOpsD E ops fl rest K)) (fun st => vcOpsD E ops fl rest K (st.put o.dst undefS false)) st
 | [],_,_,_ => False
def linOf : List Fl → List Oper → Nat → Bool
 | ⟨_,l,_⟩ :: fl,o :: rest,t => (l && (match takes o with | some (.tmp k) => k == t | _ => false)) || linOf fl rest t
 | _,_,_ => false
def hsOf (fl : List Fl) (i : Nat) : Bool := (fl.getD i ⟨false,false,0⟩).h
def ksOf (fl : List Fl) (i : Nat) : Nat := (fl.getD i ⟨false,false,0⟩).k
theorem vcOpD_sound {lin : Nat → Bool} {ops : Array Oper} {o : Oper} {h l : Bool} {k : Nat} (hl : l = true → ∀ t,takes o = some (.tmp t) → lin t = true) {K : St → Prop} {st : St} (hg : DGuard ops o st true) (hv : vcOpD E o h l k K st) :
  DActS E lin h k ops o st fun tk e => K (DTo o tk e st) := by
 have plain : ∀ K : Eff → Prop,vcTk (takes o) l → evD E o (st.sv E.T) st.ow (if h then noneF else st.loc) (if h then (if k = 0 then noneF else hidM o k st) else st.mem) K → (∀ e,K e → vcNew st o.dst e ∧ ∃ K',K' = True) →
   ∃ tk e,DAct E lin h k ops o st tk e ∧ K e ∧ DTo o tk e st = (st.takeO (takes o)).eff o.dst e := by
  intro K ht hv hk
  obtain ⟨e,h1,h2,h3⟩ := evD_some hv
  have hn : ∀ d,o.dst = some d → (∃ cells sl,e = .new cells sl) → st.loc d = none := by
   rintro d hd ⟨c,sl,rfl⟩
   have := (hk _ h2).1
   rw [hd] at this
   exact this
  cases htk : takes o with
  | none => exact ⟨none,e,.inl ⟨hg,.inl ⟨h1,h3,by rw [htk],hn⟩⟩,h2,by rw [DTo_eff]; rfl⟩
  | some x =>
   cases x with
   | tmp t =>
    rw [htk] at ht
    exact ⟨some t,e,.inl ⟨hg,.inl ⟨h1,h3,by rw [htk]; exact ⟨hl ht t htk,rfl⟩,hn⟩⟩,h2,by rw [DTo_eff]; rfl⟩
   | _ => exact ⟨none,e,.inl ⟨hg,.inl ⟨h1,h3,by rw [htk],hn⟩⟩,h2,by rw [DTo_eff]; rfl⟩
 have plain' : vcTk (takes o) l → evD E o (st.sv E.T) st.ow (if h then noneF else st.loc) (if h then (if k = 0 then noneF else hidM o k st) else st.mem) (fun e => vcNew st o.dst e ∧ K ((st.takeO (takes o)).eff o.dst e)) → ∃ tk e,DAct E lin h k ops o st tk e ∧ K (DTo o tk e st) := by
  intro ht hv
  obtain ⟨tk,e,h1,h2,h3⟩ := plain _ ht hv fun e h => ⟨h.1,_,rfl⟩
  exact ⟨tk,e,h1,by rw [h3]; exact h2.2⟩
 have mv : ∀ x,(o.op = .move x ∨ o.op = .assign x) → (if l = true then K ((st.take x).put o.dst (st.sv E.T o.type x) (st.ow x && isSlice (st.sv E.T o.type x))) else K (st.put o.dst (st.sv E.T o.type x) false)) →
   ∃ tk e,DAct E lin h k ops o st tk e ∧ K (DTo o tk e st) := by
  intro x hx hv
  split at hv
  ·rename_i hlt
   have htk : takes o = some x := by unfold takes; rcases hx with hx | hx <;> rw [hx]
   obtain ⟨tk,e,h1,h2,h3⟩ := plain (fun e => e = .put (st.sv E.T o.type x) (st.ow x && isSlice (st.sv E.T o.type x))) (by rw [htk]; unfold vcTk; split <;> first | exact hlt | trivial)
    (by unfold evD ev; rcases hx with hx | hx <;> rw [hx]) (fun e he => by subst he; exact ⟨trivial,_,rfl⟩)
   subst h2
   refine ⟨tk,_,h1,?_⟩
   rw [h3,htk]
   exact hv
  ·exact ⟨none,_,.inl ⟨hg,.inr (.inl ⟨x,hx,rfl,rfl⟩)⟩,by rw [DTo_eff]; exact hv⟩
 unfold vcOpD at hv
 split at hv
 ·rename_i c hop
  split at hv
  ·rename_i f hcf
   obtain ⟨hlen,hv⟩ := hv
   split at hv
   ·unfold vcCallD at hv
    split at hv
    ·rename_i g first caps ys hfe hys
     obtain ⟨r,hp,hk⟩ := hv
     exact .inl ⟨none,_,.inl ⟨hg,.inr (.inr (.inl ⟨c,f,g,first,caps,ys,r,hop,hcf,hlen,hfe,hys,hp,rfl,rfl⟩))⟩,by show K (DTo _ _ _ _); rw [DTo_eff]; exact hk⟩
    ·exact hv.elim
   ·obtain ⟨hh,hv⟩ := hv
    unfold vcCallT at hv
    split at hv
    ·rename_i g first caps ys hfe hys
     obtain ⟨r,m1,hp,hk⟩ := hv
     exact .inl ⟨none,_,.inl ⟨hg,.inr (.inr (.inr ⟨rfl,hh,c,f,g,first,caps,ys,r,m1,hop,hcf,hlen,hfe,hys,hp,rfl,rfl⟩))⟩,by show K (DTo _ _ _ _); rw [DTo_eff]; exact hk⟩
    ·exact hv.elim
   ·obtain ⟨hh,hv⟩ := hv
    refine .inr (.inl ⟨rfl,hh,hg,c,f,hop,hcf,hlen,?_⟩)
    unfold vcCall at hv
    unfold vcCallS
    split at hv
    ·rename_i g first caps ys hfe hys
     rw [hfe,hys]
     exact hv.mono fun r m' hk => by show K (DTo _ _ _ _); rw [DTo_eff]; exact hk
    ·rename_i l first caps ys hfe hys
     rw [hfe,hys]
     refine ⟨fun G w vs h1 h2 h3 => ?_⟩
     obtain ⟨f,tmps,assign,body,hy,hr⟩ := hv.does G w vs h1 h2 h3
     exact ⟨f,tmps,assign,body,hy,hr.mono fun e w' ⟨v,r,m',G',he,hx,hi,hm,hr,hK⟩ => ⟨v,r,m',G',he,hx,hi,hm,hr,by show K (DTo _ _ _ _); rw [DTo_eff]; exact hK⟩⟩
    ·exact hv.elim
   ·exact hv.elim
  ·split at hv
   ·rename_i hk2
    obtain ⟨hh,hv⟩ := hv
    exact .inr (.inr ⟨hk2,hh,hg,(fun s => by unfold storesAt; rw [hop]),vcAppE_congr (fun _ _ _ => rfl) rfl hv fun x m hx => by show K (DTo _ _ _ _); rw [DTo_eff]; exact hx⟩)
   ·exact .inl (plain' hv.1 hv.2)
 ·rename_i x hop; exact .inl (mv x (.inl hop) hv)
 ·rename_i x hop; exact .inl (mv x (.inr hop) hv)
 ·rename_i t r hop
  split at hv
  ·rename_i hk2
   obtain ⟨hh,hv⟩ := hv
   exact .inr (.inr ⟨hk2,hh,hg,(fun s => by unfold storesAt; rw [hop]),vcAppE_congr (fun _ _ _ => rfl) rfl hv fun x m hx => by show K (DTo _ _ _ _); rw [DTo_eff]; exact hx⟩)
  ·have htk : takes o = none := by unfold takes; rw [hop]
   refine .inl (plain' (by rw [htk]; trivial) ?_)
   rw [htk]; exact hv
 ·rename_i t r hop
  split at hv
  ·rename_i hk2
   obtain ⟨hh,hv⟩ := hv
   exact .inr (.inr ⟨hk2,hh,hg,(fun s => by unfold storesAt; rw [hop]),vcAppE_congr (fun _ _ _ => rfl) rfl hv fun x m hx => by show K (DTo _ _ _ _); rw [DTo_eff]; exact hx⟩)
  ·have htk : takes o = none := by unfold takes; rw [hop]
   refine .inl (plain' (by rw [htk]; trivial) ?_)
   rw [htk]; exact hv
 ·rename_i n1 n2 n3 n4 n5
  have htk : takes o = none := by
   unfold takes
   split
   ·rename_i x hop; exact absurd hop (n2 x)
   ·rename_i x hop; exact absurd hop (n3 x)
   ·rename_i c hop; exact absurd hop (n1 c)
   ·rfl
  refine .inl (plain' (by rw [htk]; trivial) ?_)
  rw [htk]; exact hv
theorem vcOpsD_sound {ops : Array Oper} {fl0 : List Fl} {lin : Nat → Bool} {K : St → Prop} : ∀ (l : List Oper) (fl : List Fl) (k : Nat) (st : St),(∀ j,fl.getD j ⟨false,false,0⟩ = fl0.getD (k + j) ⟨false,false,0⟩) →
  (∀ t,linOf fl l t = true → lin t = true) → vcOpsD E ops fl l K st → dLex E lin (hsOf fl0) (ksOf fl0) ops K k l st
 | [],_,_,_,_,_,h => by unfold vcOpsD at h; exact h
 | o :: l,[],_,_,_,_,h => by unfold vcOpsD at h; exact h.elim
 | o :: l,⟨hd,lt,kk⟩ :: fl,k,st,hfl,hlin,h => by
  have e0 : hsOf fl0 k = hd := by have := hfl 0; rw [Nat.add_zero] at this; unfold hsOf; rw [← this]; rfl
  have e1 : ksOf fl0 k = kk := by have := hfl 0; rw [Nat.add_zero] at this; unfold ksOf; rw [← this]; rfl
  have hfl' : ∀ j,fl.getD j ⟨false,false,0⟩ = fl0.getD (k + 1 + j) ⟨false,false,0⟩ := fun j => by have := hfl (j + 1); simpa [Nat.add_assoc,Nat.add_comm 1 j] using this
  have hlin' : ∀ t,linOf fl l t = true → lin t = true := fun t ht => hlin t (by simp [linOf,ht])
  have hl : lt = true → ∀ t,takes o = some (.tmp t) → lin t = true := fun e t ht => hlin t (by simp [linOf,ht,e])
  unfold dLex
  rw [e0,e1]
  have yes : ∀ st,DGuard ops o st true → vcOpD E o hd lt kk (vcOpsD E ops fl l K) st → DActS E lin hd kk ops o st fun tk e => dLex E lin (hsOf fl0) (ksOf fl0) ops K (k + 1) l (DTo o tk e st) := by
   intro st hg hv
   exact (vcOpD_sound (lin := lin) hl hg hv).mono fun tk e h2 => vcOpsD_sound l fl (k + 1) _ hfl' hlin' h2
  have no : ∀ st,DGuard ops o st false → vcOpsD E ops fl l K (st.put o.dst undefS false) → DActS E lin hd kk ops o st fun tk e => dLex E lin (hsOf fl0) (ksOf fl0) ops K (k + 1) l (DTo o tk e st) := by
   intro st hg hv
   exact .inl ⟨none,_,.inr ⟨hg,rfl,rfl⟩,by show dLex _ _ _ _ _ _ _ _ (DTo _ _ _ _); rw [DTo_eff]; exact vcOpsD_sound l fl (k + 1) _ hfl' hlin' hv⟩
  unfold vcOpsD vcGuard at h
  split at h
  ·rename_i hg
   exact yes st (by unfold DGuard; rw [hg]) h
  ·rename_i j want hg
   split at h
   ·exact h.elim
   ·rename_i d hj
    split at h
    ·rename_i b hb
     rw [ite_both] at h
     by_cases e : b = want
     ·subst e
      have h1 := h.1 rfl
      rw [show ({ st with vals := upd st.vals d (.v (.bool b)) } : St) = st by rw [← hb,upd_self]] at h1
      exact yes st (by unfold DGuard; rw [hg]; simp only; rw [hj]; simp only; rw [hb]; simp) h1
     ·have e' : b = !want := by cases b <;> cases want <;> simp_all
      have h2 := h.2 e'
      rw [show ({ st with vals := upd st.vals d (.v (.bool !want)) } : St) = st by rw [← e',← hb,upd_self]] at h2
      refine no st ?_ h2
      have hbw : ∀ b want : Bool,b = !want → false = (b == want) := by decide
      unfold DGuard; rw [hg]; simp only; rw [hj]; simp only; rw [hb]
      exact hbw b want e'
    ·rename_i hb
     exact no st (by unfold DGuard; rw [hg]; simp only; rw [hj]; simp only; rw [hb]; trivial) h
    ·exact h.elim
theorem Inv.drew {G : Gh} {w : World} (h : Inv G w) : Inv G { w with drawn := w.drawn + 1 } := ⟨Below.drew h.below,h.com,h.lock⟩
theorem Rep.drew {com : Nat → Nat} {w : World} {x : AV} {v : Value} (h : Rep com w x v) : Rep com { w with drawn := w.drawn + 1 } x v := Rep.mono (com := com) (com' := com) (w := w) (w' := { w with drawn := w.drawn + 1 }) (fun _ => Nat.le_refl _) (fun _ _ _ => rfl) h
theorem BoxRep.drew {com : Nat → Nat} {w : World} {b : Nat} {x : Box} (h : BoxRep com w b x) : BoxRep com { w with drawn := w.drawn + 1 } b x := by
 cases x with
 | cells l => obtain ⟨cs,e,h1,h2,h3⟩ := h; exact ⟨cs,e,h1,h2,fun i x v a b => (h3 i x v a b).drew⟩
 | map kv =>
  obtain ⟨es,clock,h1,h2,h3⟩ := h
  exact ⟨es,clock,h1,h2,fun i k x m hk hm => ⟨(h3 i k x m hk hm).1.drew,(h3 i k x m hk hm).2.drew⟩⟩
 | iter s pos => exact h
 | loop s j r =>
  obtain ⟨fn,tmps,d,h1,h2,h3⟩ := h
  exact ⟨fn,tmps,d,h1,h2,fun i => (h3 i).drew⟩
 | mapS kv born clock =>
  obtain ⟨es,h1,h0,h2,h3⟩ := h
  exact ⟨es,h1,h0,h2,fun i k x m hk hm => ⟨(h3 i k x m hk hm).1.drew,(h3 i k x m hk hm).2.drew⟩⟩
 | miter b' since seen c0 => exact h
theorem FRel.drew {G : Gh} {w : World} {a : Act} {st : St} (h : FRel G w a st) : FRel G { w with drawn := w.drawn + 1 } a st := by
 obtain ⟨β,R,h⟩ := h
 refine ⟨β,R,h.defers.ext rfl (Nat.le_refl _) (fun _ h => h) (fun _ _ => rfl),fun s => ?_,h.own,fun i l hl => ?_,h.ref,fun b x hx => ?_,h.rmem,h.rlt⟩
 ·have := h.vals s
  generalize st.vals s = x at this ⊢
  cases x with
  | v x => exact Rep.drew this
  | _ => exact this
 ·obtain ⟨⟨h1,h2,h3,h4⟩,h5⟩ := h.loc i l hl
  exact ⟨⟨h1,h2,h3,h4.drew⟩,h5⟩
 ·obtain ⟨h1,h2,h3,h4,h5⟩ := h.mem b x hx
  exact ⟨h1,h2,h3,h4,h5.drew⟩
def drawOk (fl : List Fl) (ops : Array Oper) : Bool := lexD (linOf fl ops.toList) (hsOf fl) (ksOf fl) ops ops.size 0 (Array.replicate ops.size false)
theorem adraw (hE : EnvOk E) (hm : E.P.follows .mixedOrders = true) (fl : List Fl) {ops : Array Oper} (hok : drawOk fl ops = true) {n : Nat} {K : St → Prop} {st : St} (h : vcOpsD E ops fl ops.toList K st) : ADraw E n ops K st .mk := by
 refine ⟨fun hd id r _ G w a hi hf hs => ?_⟩
 refine wpIn_region_any hm ?_
 have hl := vcOpsD_sound (fl0 := fl) (lin := linOf fl ops.toList) (K := K) ops.toList fl 0 st (by simp) (fun t ht => ht) h
 have ha := dAny_lex (E := E) ops.toList 0 (Array.replicate ops.size false) st (by simp) (fun k ok _ hl => by rw [Array.getD_eq_getD_getElem?,Array.getElem?_replicate] at hl; split at hl <;> cases hl) (by simpa [drawOk] using hok) hl
 have hx : Ext G w G { w with drawn := w.drawn + 1 } := ⟨rfl,rfl,Nat.le_refl _,fun _ => Nat.le_refl _,fun _ _ _ => rfl,fun _ _ => ⟨rfl,rfl⟩⟩
 have := wpAny_of_dAny hE (r := r) (Q := fun e a' w' => Sat n G w (fun e st' => e = .normal ∧ K st') e a' w') hd (fun a' w' G' st' hx' hi' hf' hs' hk => ⟨G',st',hx'.toL,hi',hf',hs',rfl,hk⟩) ops.toList.length _ _ G _ a hx
  ?_ ?_ hs ha
 ·simpa using this
 ·exact hi.drew
 ·exact hf.drew
theorem vcOpsP_sound {ops : Array Oper} {fl0 : List Fl} {lin : Nat → Bool} {K : St → Prop} : ∀ (l : List Nat) (st : St),
  (∀ i ∈ l,∀ t,(fl0.getD i ⟨false,false,0⟩).l = true → takes ((ops.toList[i]?).getD default) = some (.tmp t) → lin t = true) →
  vcOpsD E ops (l.map fun i => fl0.getD i ⟨false,false,0⟩) (l.map fun i => (ops.toList[i]?).getD default) K st → dLexP E lin (hsOf fl0) (ksOf fl0) ops K l st
 | [],_,_,h => by simp only [List.map_nil] at h; unfold vcOpsD at h; exact h
 | i :: l,st,hlin,h => by
  simp only [List.map_cons] at h
  have e0 : hsOf fl0 i = (fl0.getD i ⟨false,false,0⟩).h := rfl
  have e1 : ksOf fl0 i = (fl0.getD i ⟨false,false,0⟩).k := rfl
  have hl := hlin i (by simp)
  have hlin' := fun j hj => hlin j (List.mem_cons_of_mem _ hj)
  unfold dLexP
  rw [e0,e1]
  generalize fl0.getD i ⟨false,false,0⟩ = f at *
  obtain ⟨hd,lt,kk⟩ := f
  generalize (ops.toList[i]?).getD default = o at *
  have yes : ∀ st,DGuard ops o st true → vcOpD E o hd lt kk (vcOpsD E ops (l.map fun i => fl0.getD i ⟨false,false,0⟩) (l.map fun i => (ops.toList[i]?).getD default) K) st → DActS E lin hd kk ops o st fun tk e => dLexP E lin (hsOf fl0) (ksOf fl0) ops K l (DTo o tk e st) := by
   intro st hg hv
   exact (vcOpD_sound (lin := lin) (fun e t ht => hl t e ht) hg hv).mono fun tk e h2 => vcOpsP_sound l _ hlin' h2
  have no : ∀ st,DGuard ops o st false → vcOpsD E ops (l.map fun i => fl0.getD i ⟨false,false,0⟩) (l.map fun i => (ops.toList[i]?).getD default) K (st.put o.dst undefS false) → DActS E lin hd kk ops o st fun tk e => dLexP E lin (hsOf fl0) (ksOf fl0) ops K l (DTo o tk e st) := by
   intro st hg hv
   exact .inl ⟨none,_,.inr ⟨hg,rfl,rfl⟩,by show dLexP _ _ _ _ _ _ _ (DTo _ _ _ _); rw [DTo_eff]; exact vcOpsP_sound l _ hlin' hv⟩
  unfold vcOpsD vcGuard at h
  split at h
  ·rename_i hg
   exact yes st (by unfold DGuard; rw [hg]) h
  ·rename_i j want hg
   split at h
   ·exact h.elim
   ·rename_i d hj
    split at h
    ·rename_i b hb
     rw [ite_both] at h
     by_cases e : b = want
     ·subst e
      have h1 := h.1 rfl
      rw [show ({ st with vals := upd st.vals d (.v (.bool b)) } : St) = st by rw [← hb,upd_self]] at h1
      exact yes st (by unfold DGuard; rw [hg]; simp only; rw [hj]; simp only; rw [hb]; simp) h1
     ·have e' : b = !want := by cases b <;> cases want <;> simp_all
      have h2 := h.2 e'
      rw [show ({ st with vals := upd st.vals d (.v (.bool !want)) } : St) = st by rw [← e',← hb,upd_self]] at h2
      refine no st ?_ h2
      have hbw : ∀ b want : Bool,b = !want → false = (b == want) := by decide
      unfold DGuard; rw [hg]; simp only; rw [hj]; simp only; rw [hb]
      exact hbw b want e'
    ·rename_i hb
     exact no st (by unfold DGuard; rw [hg]; simp only; rw [hj]; simp only; rw [hb]; trivial) h
    ·exact h.elim
def linP (fl : List Fl) (ops : Array Oper) (l : List Nat) (t : Nat) : Bool := l.any fun i => (fl.getD i ⟨false,false,0⟩).l && (match takes ((ops.toList[i]?).getD default) with | some (.tmp k) => k == t | _ => false)
def drawOkP (l : List Nat) (fl : List Fl) (ops : Array Oper) : Bool := (l.length == ops.size) && lexP (linP fl ops l) (hsOf fl) (ksOf fl) ops l (Array.replicate ops.size false)
theorem adrawP (hE : EnvOk E) (hm : E.P.follows .mixedOrders = true) (l : List Nat) (fl : List Fl) {ops : Array Oper} (hok : drawOkP l fl ops = true) {n : Nat} {K : St → Prop} {st : St}
  (h : vcOpsD E ops (l.map fun i => fl.getD i ⟨false,false,0⟩) (l.map fun i => (ops.toList[i]?).getD default) K st) : ADraw E n ops K st .mk := by
 refine ⟨fun hd id r _ G w a hi hf hs => ?_⟩
 refine wpIn_region_any hm ?_
 unfold drawOkP at hok
 rw [Bool.and_eq_true,beq_iff_eq] at hok
 have hl := vcOpsP_sound (fl0 := fl) (lin := linP fl ops l) (K := K) l st (fun i hi t h1 h2 => by
  unfold linP
  rw [List.any_eq_true]
  exact ⟨i,hi,by rw [h1,h2]; simp⟩) h
 have ha := dAny_lexP (E := E) l (Array.replicate ops.size false) st (fun k ok _ hl => by rw [Array.getD_eq_getD_getElem?,Array.getElem?_replicate] at hl; split at hl <;> cases hl) hok.2 hl
 rw [hok.1] at ha
 have hx : Ext G w G { w with drawn := w.drawn + 1 } := ⟨rfl,rfl,Nat.le_refl _,fun _ => Nat.le_refl _,fun _ _ _ => rfl,fun _ _ => ⟨rfl,rfl⟩⟩
 have := wpAny_of_dAny hE (r := r) (Q := fun e a' w' => Sat n G w (fun e st' => e = .normal ∧ K st') e a' w') hd (fun a' w' G' st' hx' hi' hf' hs' hk => ⟨G',st',hx'.toL,hi',hf',hs',rfl,hk⟩) ops.size _ _ G _ a hx
  ?_ ?_ hs ha
 ·exact this
 ·exact hi.drew
 ·exact hf.drew
end
end Go.Proofs.YtdmejgfcaacdoaaGreat.Abs
/- The abstract machine,part 24: pointed things that never change from here on. -/
namespace Go.Proofs.YtdmejgfcaacdoaaGreat.Abs
set_option linter.unusedSimpArgs false
open Go Go.RowKit
section
variable {E : Env} {G : Gh} {w : World} {β : Nat → Nat} {R : Nat → Role} {a : Act} {st : St} {n : Nat}
end
end Go.Proofs.YtdmejgfcaacdoaaGreat.Abs
/- The abstract machine,part 25: variables of one's own that never change from a loop over a function on. -/
namespace Go.Proofs.YtdmejgfcaacdoaaGreat.Abs
set_option linter.unusedSimpArgs false
open Go Go.RowKit
section
variable {E : Env} {st : St} {n : Nat}
theorem ARange.freeze (i : Nat) {g : Operand} {ps : Array Tmp} {assign body : Code} {K : Exit → St → Prop} (h : ARange E n g ps assign body K (st.freeze i) .mk) : ARange E n g ps assign body K st .mk := by
 refine ⟨fun r hr G w a hi ⟨β,R,hf⟩ hs => ?_⟩
 obtain ⟨G',R',x,i',f'⟩ := freeze_sound hi hf i
 refine wpIn_mono (h.does r hr G' w a i' ⟨β,R',f'⟩ hs) fun e a' w' q => ?_
 obtain ⟨G2,st2,x2,q⟩ := q
 exact ⟨G2,st2,x.toL.trans x2,q⟩
end
end Go.Proofs.YtdmejgfcaacdoaaGreat.Abs
/- The abstract machine,part 26: slices that are built as shared memory,and appends to slices that are full. -/
namespace Go.Proofs.YtdmejgfcaacdoaaGreat.Abs
set_option linter.unusedSimpArgs false
open Go Go.RowKit
section
variable {E : Env} {G : Gh} {w : World} {β : Nat → Nat} {R : Nat → Role} {a : Act} {st : St} {n : Nat}
theorem acut_at (hE : EnvOk E) {V : Oper → (St → Prop) → St → Prop}
  (hV : ∀ {o : Oper} {K : St → Prop} {st : St},V o K st → dstOk n o = true → ∀ {G : Gh} {w : World} {a : Act},Inv G w → FRel G w a st → a.tmps.size = n → ∀ {r : Option Nat} {next : Act → World → Prop} {Q : Exit → Act → World → Prop},
   (∀ a' w' G' st',Ext G w G' w' → Inv G' w' → FRel G' w' a' st' → a'.tmps.size = n → K st' → next a' w') → o.wpIn (fen r) 0 E.P a w next Q)
  {ops : Array Oper} {K : St → Prop} {α : Type} (pre : List Oper) (o : Oper) (post : List Oper) (hops : ops.toList = pre ++ o :: post) (hg : o.guard = none) (I : α → Head) (J : α → Prop) (hok : ∀ x,(I x).ok = true)
  (h : vcOps E ops pre (V o (vcOps E ops post (fun st' => ∃ x,J x ∧ Fits st' (I x)))) st) (hk : ∀ x,J x → K (I x).st) : ACut E n ops K st .mk := by
 refine ⟨fun hc id r hrd G w a hi hf hs => wpIn_region_list ?_⟩
 rw [hops] at hc ⊢
 simp only [List.all_append,List.all_cons,Bool.and_eq_true] at hc
 obtain ⟨c1,c2,c3⟩ := hc
 refine vcOps_pre hE pre h c1 hi hf hs fun a1 w1 G1 st1 x1 i1 f1 s1 k1 => ?_
 unfold wpListIn
 rw [if_pos (by simp [Region.wanted,hg])]
 refine hV k1 c2 i1 f1 s1 fun a2 w2 G2 st2 x2 i2 f2 s2 k2 => ?_
 refine vcOps_sound hE post k2 c3 i2 f2 s2 ?_
 rintro a3 w3 G3 st3 x3 i3 f3 s3 ⟨x,hj,hfit⟩
 exact ⟨G3,(I x).st,((x1.trans x2).trans x3).toL,i3,f3.weaken hfit (hok x),s3,rfl,hk x hj⟩
theorem acut_at_k (k : Nat) (hE : EnvOk E) {V : Oper → (St → Prop) → St → Prop}
  (hV : ∀ {o : Oper} {K : St → Prop} {st : St},V o K st → dstOk n o = true → ∀ {G : Gh} {w : World} {a : Act},Inv G w → FRel G w a st → a.tmps.size = n → ∀ {r : Option Nat} {next : Act → World → Prop} {Q : Exit → Act → World → Prop},
   (∀ a' w' G' st',Ext G w G' w' → Inv G' w' → FRel G' w' a' st' → a'.tmps.size = n → K st' → next a' w') → o.wpIn (fen r) 0 E.P a w next Q)
  {ops : Array Oper} {K : St → Prop} {α : Type} {o : Oper} {post : List Oper} (hops : ops.toList.drop k = o :: post) (hg : o.guard = none) (I : α → Head) (J : α → Prop) (hok : ∀ x,(I x).ok = true)
  (h : vcOps E ops (ops.toList.take k) (V o (vcOps E ops post (fun st' => ∃ x,J x ∧ Fits st' (I x)))) st) (hk : ∀ x,J x → K (I x).st) : ACut E n ops K st .mk :=
 acut_at hE hV (ops.toList.take k) o post (by rw [← hops,List.take_append_drop]) hg I J hok h hk
end
end Go.Proofs.YtdmejgfcaacdoaaGreat.Abs
