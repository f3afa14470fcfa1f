/- Lemmas for the statements of this seat (X8): they hold without conditions beyond those that each one states. -/
import Derived.Test.YteppmjlfpniiaaaGreatX7
import Derived.Test.YteppmjlfpniiaaaGreatX6
import Derived.Test.YteppmjlfpniiaaaGreatX5
import Derived.Lib.SliceRun
/- Statements whose order is open,part 6: one walk in the text's order serves every order. -/
namespace Go.Proofs.YteppmjlfpniiaaaGreat.Abs
set_option linter.unusedSimpArgs false
open Go Go.RowKit
section
variable {E : Env}
def dOp (E : Env) (lin hs : Nat → Bool) (ks : Nat → Nat) (ops : Array Oper) (i : Nat) (K : St → Prop) (st : St) : Prop :=
 match ops[i]? with
 | none => K st
 | some o => DActS E lin (hs i) (ks i) ops o st fun tk e => K (DTo o tk e st)
def dAny (E : Env) (lin hs : Nat → Bool) (ks : Nat → Nat) (ops : Array Oper) (Q : St → Prop) : Nat → Array Bool → St → Prop
 | 0,listed,st => Region.ready .any ops listed = [] ∧ Q st
 | fuel + 1,listed,st => (Region.ready .any ops listed = [] → Q st) ∧ ∀ i ∈ Region.ready .any ops listed,dOp E lin hs ks ops i (dAny E lin hs ks ops Q fuel (listed.setIfInBounds i true)) st
theorem DActS.mono {lin : Nat → Bool} {hide : Bool} {k : Nat} {ops : Array Oper} {o : Oper} {st : St} {S S' : Option Nat → Eff → Prop} (h : DActS E lin hide k ops o st S) (hs : ∀ tk e,S tk e → S' tk e) : DActS E lin hide k ops o st S' := by
 rcases h with ⟨tk,e,h,hS⟩ | ⟨k2,hh,hg,c,f,hop,hcf,hlen,h⟩ | ⟨k2,hh,hg,hop,h⟩
 ·exact .inl ⟨tk,e,h,hs _ _ hS⟩
 ·exact .inr (.inl ⟨k2,hh,hg,c,f,hop,hcf,hlen,vcCallS_mono h fun x m hx => hs _ _ hx⟩)
 ·exact .inr (.inr ⟨k2,hh,hg,hop,vcAppE_congr (fun _ _ _ => rfl) rfl h fun x m hx => hs _ _ hx⟩)
def behind (ops : Array Oper) : Nat → Nat → Nat → Bool
 | 0,_,_ => false
 | n + 1,j,i => match ops[j]? with
  | some oj => oj.after.any fun e => Region.binds .any e && (e.on == i || behind ops n e.on i)
  | none => false
def ClosedL (ops : Array Oper) (listed : Array Bool) : Prop := ∀ (k : Nat) (ok : Oper),ops[k]? = some ok → listed.getD (k) false = true → ∀ e ∈ ok.after,Region.binds .any e = true → listed.getD (e.on) false = true
theorem behind_listed {ops : Array Oper} {listed : Array Bool} (hc : ClosedL ops listed) {i : Nat} : ∀ (n j : Nat),(∀ oj,ops[j]? = some oj → ∀ e ∈ oj.after,Region.binds .any e = true → listed.getD (e.on) false = true) → behind ops n j i = true → listed.getD (i) false = true
 | 0,_,_,h => by simp [behind] at h
 | n + 1,j,ha,h => by
  unfold behind at h
  split at h
  ·rename_i oj hoj
   obtain ⟨e,he,hb⟩ := Array.any_eq_true'.1 h
   simp only [Bool.and_eq_true,Bool.or_eq_true,beq_iff_eq] at hb
   have hl := ha oj hoj e he hb.1
   rcases hb.2 with hb2 | hb2
   ·rw [← hb2]; exact hl
   ·exact behind_listed hc n e.on (fun ok hok => hc e.on ok hok hl) hb2
  ·cases h
theorem ClosedL.set {ops : Array Oper} {listed : Array Bool} (hc : ClosedL ops listed) {j : Nat} (hj : j ∈ Region.ready .any ops listed) : ClosedL ops (listed.setIfInBounds j true) := by
 obtain ⟨_,oj,hoj,hall⟩ := mem_ready.1 hj
 have mono : ∀ k,listed.getD k false = true → (listed.setIfInBounds j true).getD k false = true := fun k hk => by
  by_cases e : j = k
  ·subst e
   have : j < listed.size := by
    rcases Nat.lt_or_ge j listed.size with h | h
    ·exact h
    ·simp [Array.getElem?_eq_none h] at hk
   simp [this]
  ·rw [getD_set_ne false e]; exact hk
 intro k ok hk hl e he hb
 by_cases hkj : k = j
 ·subst hkj
  have hk : ops[k]? = some ok := hk
  rw [hoj] at hk
  injection hk with hk
  subst hk
  exact mono _ (hall e he hb)
 ·rw [getD_set_ne false (fun h => hkj h.symm)] at hl
  exact mono _ (hc k ok hk hl e he hb)
theorem dAny_first {lin hs : Nat → Bool} {ks : Nat → Nat} {ops : Array Oper} {Q : St → Prop} {i : Nat} {oi : Oper} {tki : Option Nat} {ei : Eff} (hi : ops[i]? = some oi) : ∀ (fuel : Nat) (listed : Array Bool) (st : St),ClosedL ops listed →
  (∀ j oj,ops[j]? = some oj → j ≠ i → listed.getD j true = false → behind ops 5 j i = false → PairOk lin ops oi oj (hs i) (hs j) (ks i) (ks j)) →
  i ∈ Region.ready .any ops listed → DAct E lin (hs i) (ks i) ops oi st tki ei → dAny E lin hs ks ops Q fuel (listed.setIfInBounds i true) (DTo oi tki ei st) → dAny E lin hs ks ops Q (fuel + 1) listed st := by
 intro fuel
 have self : ∀ (fuel : Nat) (listed : Array Bool) (st : St),DAct E lin (hs i) (ks i) ops oi st tki ei → dAny E lin hs ks ops Q fuel (listed.setIfInBounds i true) (DTo oi tki ei st) →
   dOp E lin hs ks ops i (dAny E lin hs ks ops Q fuel (listed.setIfInBounds i true)) st := by
  intro fuel listed st h1 h2
  unfold dOp
  rw [hi]
  exact .inl ⟨tki,ei,h1,h2⟩
 induction fuel with
 | zero =>
  intro listed st _ _ hr hy H
  refine ⟨fun h => (by rw [h] at hr; cases hr),fun j hj => ?_⟩
  by_cases hji : j = i
  ·subst hji; exact self _ _ _ hy H
  ·have := ready_mono hj hji
   rw [H.1] at this
   cases this
 | succ fuel ih =>
  intro listed st hcl hfree hr hy H
  refine ⟨fun h => (by rw [h] at hr; cases hr),fun j hj => ?_⟩
  by_cases hji : j = i
  ·subst hji; exact self _ _ _ hy H
  ·have h1 := H.2 j (ready_mono hj hji)
   obtain ⟨hjun,oj,hoj,hall⟩ := mem_ready.1 hj
   have hnot : behind ops 5 j i = false := by
    cases hb : behind ops 5 j i with
    | false => rfl
    | true =>
     have h1 := behind_listed hcl 5 j (fun ok hok => by rw [hoj] at hok; injection hok with hok; subst hok; exact hall) hb
     have h0 := (mem_ready.1 hr).1
     rcases Nat.lt_or_ge i listed.size with h' | h'
     ·simp [h'] at h0 h1; rw [h0] at h1; cases h1
     ·simp [Array.getElem?_eq_none h'] at h1
   have hfree' : ∀ k ok,ops[k]? = some ok → k ≠ i → (listed.setIfInBounds j true).getD k true = false → behind ops 5 k i = false → PairOk lin ops oi ok (hs i) (hs k) (ks i) (ks k) := fun k ok hk hki hun hno => by
    refine hfree k ok hk hki ?_ hno
    by_cases hjk : j = k
    ·subst hjk; exact hjun
    ·rw [getD_set_ne true hjk] at hun; exact hun
   unfold dOp at h1 ⊢
   rw [hoj] at h1 ⊢
   refine (dswap (hfree j oj hoj hji hjun hnot) hy h1).mono ?_
   rintro tkj ej ⟨h3,s2,s3⟩
   refine ih (listed.setIfInBounds j true) _ (hcl.set hj) hfree' (ready_mono hr (Ne.symm hji)) s2 ?_
   rw [Array.setIfInBounds_comm _ _ hji,← s3]
   exact h3
theorem dAny_alone {lin hs : Nat → Bool} {ks : Nat → Nat} {ops : Array Oper} {Q : St → Prop} {i : Nat} (fuel : Nat) (listed : Array Bool) (st : St) (hcl : ClosedL ops listed)
  (hfree : ∀ j oj,ops[j]? = some oj → j ≠ i → listed.getD j true = false → behind ops 5 j i = true) (hr : i ∈ Region.ready .any ops listed)
  (h : dOp E lin hs ks ops i (dAny E lin hs ks ops Q fuel (listed.setIfInBounds i true)) st) : dAny E lin hs ks ops Q (fuel + 1) listed st := by
 refine ⟨fun h => (by rw [h] at hr; cases hr),fun j hj => ?_⟩
 by_cases hji : j = i
 ·subst hji; exact h
 ·obtain ⟨hjun,oj,hoj,hall⟩ := mem_ready.1 hj
  have h1 := behind_listed hcl 5 j (fun ok hok => by rw [hoj] at hok; injection hok with hok; subst hok; exact hall) (hfree j oj hoj hji hjun)
  have h0 := (mem_ready.1 hr).1
  rcases Nat.lt_or_ge i listed.size with h' | h'
  ·simp [h'] at h0 h1; rw [h0] at h1; cases h1
  ·simp [Array.getElem?_eq_none h'] at h1
def calmB (oj : Oper) (kj ki : Nat) : Bool := (!(isWriter oj.op || (kj == 1 || kj == 2)) || (ki != 3 && (Nat.blt ki 4 || (kj != 1 && kj != 2 && storesAt oj (ki - 4))))) && (Nat.blt ki 4 || match oj.dst with | some d => d != ki - 4 | none => true)
theorem calmB_spec {oj : Oper} {kj ki : Nat} (h : calmB oj kj ki = true) : Calm oj kj ki := by
 unfold calmB at h
 rw [Bool.and_eq_true] at h
 obtain ⟨h1,h2⟩ := h
 have hlt : 4 ≤ ki → Nat.blt ki 4 = false := fun q => by
  cases hb : Nat.blt ki 4 with
  | false => rfl
  | true => rw [Nat.blt_eq] at hb; omega
 refine ⟨fun q => ?_,fun q => ?_⟩
 ·have : (isWriter oj.op || (kj == 1 || kj == 2)) = true := by simpa using q
  rw [this,Bool.not_true,Bool.false_or,Bool.and_eq_true] at h1
  refine ⟨by simpa using h1.1,fun q4 => ?_⟩
  have h3 := h1.2
  rw [hlt q4,Bool.false_or] at h3
  simp only [Bool.and_eq_true,bne_iff_ne] at h3
  exact h3
 ·rw [hlt q,Bool.false_or] at h2
  intro e
  rw [e] at h2
  simp at h2
def pairB (lin : Nat → Bool) (ops : Array Oper) (oi oj : Oper) (hi hj : Bool) (ki kj : Nat) : Bool :=
 oi.apart ops oj && (!loud kj oj || hi) && (!loud ki oi || hj || (!isWriter oi.op && (ki != 1 && (ki != 2 && isCallV oj)))) && calmB oj kj ki && calmB oi ki kj && (oi.looksAt ops).all fun t => !lin t || !(oj.looksAt ops).contains t
theorem pairB_spec {lin : Nat → Bool} {ops : Array Oper} {oi oj : Oper} {hi hj : Bool} {ki kj : Nat} (h : pairB lin ops oi oj hi hj ki kj = true) : PairOk lin ops oi oj hi hj ki kj := by
 simp only [pairB,Bool.and_eq_true,List.all_eq_true] at h
 obtain ⟨⟨⟨⟨⟨h1,h2⟩,h3⟩,m1⟩,m2⟩,h4⟩ := h
 simp only [Bool.or_eq_true,Bool.not_eq_true'] at h2 h4
 refine ⟨h1,fun e => ?_,fun e => ?_,calmB_spec m1,calmB_spec m2,fun t ht hi hj => ?_⟩
 ·rcases h2 with h2 | h2
  ·rw [e] at h2; cases h2
  ·exact h2
 ·cases hj0 : hj with
  | true => exact .inl rfl
  | false =>
   rw [e,hj0] at h3
   simp at h3
   exact .inr ⟨⟨h3.1,h3.2.1,h3.2.2.1⟩,h3.2.2.2⟩
 ·rcases h4 t hi with h | h
  ·rw [ht] at h; cases h
  ·simp at h; exact h hj
def freeB (lin hs : Nat → Bool) (ks : Nat → Nat) (ops : Array Oper) (listed : Array Bool) (i : Nat) : Bool :=
 match ops[i]? with
 | none => false
 | some oi => (List.range ops.size).all fun j => j == i || listed.getD j true || match ops[j]? with
   | some oj => (ks i != 2 && pairB lin ops oi oj (hs i) (hs j) (ks i) (ks j)) || behind ops 5 j i
   | none => true
theorem freeB_spec {lin hs : Nat → Bool} {ks : Nat → Nat} {ops : Array Oper} {i : Nat} {oi : Oper} {listed : Array Bool} (hi : ops[i]? = some oi) (h : freeB lin hs ks ops listed i = true) (j : Nat) (oj : Oper)
  (hj : ops[j]? = some oj) (hne : j ≠ i) (hun : listed.getD j true = false) : behind ops 5 j i = true ∨ (ks i ≠ 2 ∧ PairOk lin ops oi oj (hs i) (hs j) (ks i) (ks j)) := by
 simp only [freeB,hi,List.all_eq_true,List.mem_range] at h
 have h1 := h j (Array.getElem?_eq_some_iff.1 hj).1
 simp only [hj,Bool.or_eq_true,beq_iff_eq,hne,false_or,hun,Bool.false_eq_true] at h1
 rcases h1 with h1 | h1
 ·simp only [Bool.and_eq_true,bne_iff_ne] at h1
  exact .inr ⟨h1.1,pairB_spec h1.2⟩
 ·exact .inl h1
def lexD (lin hs : Nat → Bool) (ks : Nat → Nat) (ops : Array Oper) : Nat → Nat → Array Bool → Bool
 | 0,_,listed => (Region.ready .any ops listed).isEmpty
 | fuel + 1,k,listed => (Region.ready .any ops listed).contains k && freeB lin hs ks ops listed k && lexD lin hs ks ops fuel (k + 1) (listed.setIfInBounds k true)
def dLex (E : Env) (lin hs : Nat → Bool) (ks : Nat → Nat) (ops : Array Oper) (Q : St → Prop) : Nat → List Oper → St → Prop
 | _,[],st => Q st
 | i,o :: rest,st => DActS E lin (hs i) (ks i) ops o st fun tk e => dLex E lin hs ks ops Q (i + 1) rest (DTo o tk e st)
theorem dAny_lex {lin hs : Nat → Bool} {ks : Nat → Nat} {ops : Array Oper} {Q : St → Prop} : ∀ (l : List Oper) (k : Nat) (listed : Array Bool) (st : St),(∀ j,l[j]? = ops[k + j]?) → ClosedL ops listed → lexD lin hs ks ops l.length k listed = true →
  dLex E lin hs ks ops Q k l st → dAny E lin hs ks ops Q l.length listed st
 | [],_,_,_,_,_,hB,h => ⟨by simpa [lexD] using hB,h⟩
 | o :: l,k,listed,st,hl,hcl,hB,h => by
  have h0 : ops[k]? = some o := by simpa using (hl 0).symm
  simp only [List.length_cons,lexD,Bool.and_eq_true] at hB
  obtain ⟨⟨hr,hf⟩,hB'⟩ := hB
  have hsp := freeB_spec h0 hf
  have hl' : ∀ j,l[j]? = ops[k + 1 + j]? := fun j => by have := hl (j + 1); simpa [Nat.add_assoc,Nat.add_comm 1 j] using this
  have hr' : k ∈ Region.ready .any ops listed := by simpa using hr
  have hcl' := hcl.set hr'
  by_cases hk2 : ks k = 2
  ·refine dAny_alone l.length listed st hcl (fun j oj hj hne hun => ?_) hr' ?_
   ·rcases hsp j oj hj hne hun with h | ⟨h,_⟩
    ·exact h
    ·exact absurd hk2 h
   ·unfold dOp
    rw [h0]
    exact DActS.mono h fun tk e h => dAny_lex l (k + 1) _ _ hl' hcl' hB' h
  ·rcases h with ⟨tk,e,h1,h2⟩ | ⟨h,_⟩ | ⟨h,_⟩
   ·exact dAny_first h0 l.length listed st hcl (fun j oj hj hne hun hno => by
     rcases hsp j oj hj hne hun with hb | ⟨_,h⟩
     ·rw [hno] at hb; cases hb
     ·exact h) hr' h1 (dAny_lex l (k + 1) _ _ hl' hcl' hB' h2)
   ·exact absurd h hk2
   ·exact absurd h hk2
def dLexP (E : Env) (lin hs : Nat → Bool) (ks : Nat → Nat) (ops : Array Oper) (Q : St → Prop) : List Nat → St → Prop
 | [],st => Q st
 | i :: rest,st => DActS E lin (hs i) (ks i) ops ((ops.toList[i]?).getD default) st fun tk e => dLexP E lin hs ks ops Q rest (DTo ((ops.toList[i]?).getD default) tk e st)
def lexP (lin hs : Nat → Bool) (ks : Nat → Nat) (ops : Array Oper) : List Nat → Array Bool → Bool
 | [],listed => (Region.ready .any ops listed).isEmpty
 | k :: r,listed => (Region.ready .any ops listed).contains k && freeB lin hs ks ops listed k && lexP lin hs ks ops r (listed.setIfInBounds k true)
theorem dAny_lexP {lin hs : Nat → Bool} {ks : Nat → Nat} {ops : Array Oper} {Q : St → Prop} : ∀ (l : List Nat) (listed : Array Bool) (st : St),ClosedL ops listed → lexP lin hs ks ops l listed = true →
  dLexP E lin hs ks ops Q l st → dAny E lin hs ks ops Q l.length listed st
 | [],_,_,_,hB,h => ⟨by simpa [lexP] using hB,h⟩
 | k :: l,listed,st,hcl,hB,h => by
  simp only [lexP,Bool.and_eq_true] at hB
  obtain ⟨⟨hr,hf⟩,hB'⟩ := hB
  have hr' : k ∈ Region.ready .any ops listed := by simpa using hr
  obtain ⟨_,o,h0,_⟩ := mem_ready.1 hr'
  have ho : (ops.toList[k]?).getD default = o := by rw [Array.getElem?_toList,h0]; rfl
  have hsp := freeB_spec h0 hf
  have hcl' := hcl.set hr'
  unfold dLexP at h
  rw [ho] at h
  by_cases hk2 : ks k = 2
  ·refine dAny_alone l.length listed st hcl (fun j oj hj hne hun => ?_) hr' ?_
   ·rcases hsp j oj hj hne hun with h | ⟨h,_⟩
    ·exact h
    ·exact absurd hk2 h
   ·unfold dOp
    rw [h0]
    exact DActS.mono h fun tk e h => dAny_lexP l _ _ hcl' hB' h
  ·rcases h with ⟨tk,e,h1,h2⟩ | ⟨h,_⟩ | ⟨h,_⟩
   ·exact dAny_first h0 l.length listed st hcl (fun j oj hj hne hun hno => by
     rcases hsp j oj hj hne hun with hb | ⟨_,h⟩
     ·rw [hno] at hb; cases hb
     ·exact h) hr' h1 (dAny_lexP l _ _ hcl' hB' h2)
   ·exact absurd h hk2
   ·exact absurd h hk2
theorem wpAny_of_dAny (hE : EnvOk E) {r : Option Nat} {lin hs : Nat → Bool} {ks : Nat → Nat} {ops : Array Oper} {n : Nat} (hd : ops.toList.all (dstOk n) = true) {K : St → Prop} {Q : Exit → Act → World → Prop} {G0 : Gh} {w0 : World}
  (hQ : ∀ a w G st,Ext G0 w0 G w → Inv G w → FRel G w a st → a.tmps.size = n → K st → Q .normal a w) : ∀ (fuel : Nat) (listed : Array Bool) (st : St) (G : Gh) (w : World) (a : Act),Ext G0 w0 G w → Inv G w → FRel G w a st → a.tmps.size = n →
  dAny E lin hs ks ops K fuel listed st → wpAnyIn (fen r) 0 E.P .any ops Q fuel listed a w
 | 0,_,_,_,_,_,hx,hi,hf,hs,h => ⟨h.1,hQ _ _ _ _ hx hi hf hs h.2⟩
 | fuel + 1,listed,st,G,w,a,hx,hi,hf,hs,h => by
  refine ⟨fun e => hQ _ _ _ _ hx hi hf hs (h.1 e),fun i hr => ?_⟩
  have h1 := h.2 i hr
  unfold dOp at h1
  unfold wpOpIn
  split
  ·rename_i hn
   rw [hn] at h1
   exact wpAny_of_dAny hE hd hQ fuel _ _ G w a hx hi hf hs h1
  ·rename_i o ho
   rw [ho] at h1
   have hdo : dstOk n o = true := List.all_eq_true.1 hd o (by have := Array.mem_of_getElem? ho; simpa using this)
   exact dacts_sound hE h1 hi hf hs hdo fun tk e h3 a' w' G' hx' hi' hf' hs' => wpAny_of_dAny hE hd hQ fuel _ _ G' w' a' (hx.trans hx') hi' hf' hs' h3
/-! ### As conditions -/
def VPure (P : Program) (g : FuncId) (xs : List AV) (h : Bool) (m : Mem) (K : AV → Prop) (_t : Tag K) : Prop := ∃ r,LCall P g xs h m r ∧ K r
def vcCallD (E : Env) (h : Bool) (m : Mem) (f : SV) (xs : List SV) (K : AV → Prop) : Prop :=
 match f,avs xs with
 | .v (.fn (.func g) first caps),some ys => VPure E.P g (first ++ ys ++ caps) h m K .mk
 | _,_ => False
def vcTk (t : Option Operand) (l : Bool) : Prop := match t with
 | some (.tmp _) => l = true
 | _ => True
def vcNew (st : St) (d : Option Tmp) (e : Eff) : Prop := match e,d with
 | .new _ _,some d => st.loc d = none
 | _,_ => True
structure Fl where
 h : Bool
 l : Bool
 k : Nat
def VTold (P : Program) (g : FuncId) (xs : List AV) (m : Mem) (K : AV → Mem → Prop) (_t : Tag K) : Prop := ∃ r m1,ACall P g xs m (fun r' m' => r' = r ∧ m' = m1) ∧ K r m1
def vcCallT (E : Env) (f : SV) (xs : List SV) (m : Mem) (K : AV → Mem → Prop) : Prop :=
 match f,avs xs with
 | .v (.fn (.func g) first caps),some ys => VTold E.P g (first ++ ys ++ caps) m K .mk
 | _,_ => False
def vcOpD (E : Env) (o : Oper) (h l : Bool) (k : Nat) (K : St → Prop) (st : St) : Prop :=
 match o.op with
 | .call c => match c.callee with
  | .value f => c.argTypes.toList.length = c.args.toList.length ∧ match k with
   | 0 => vcCallD E h st.mem (st.sv E.T 0 f) ((c.argTypes.toList.zip c.args.toList).map fun p => st.sv E.T p.1 p.2) fun r => K (st.put o.dst (.v r) false)
   | 1 => h = false ∧ vcCallT E (st.sv E.T 0 f) ((c.argTypes.toList.zip c.args.toList).map fun p => st.sv E.T p.1 p.2) st.mem fun r m' => K ({ st with mem := m' }.put o.dst (.v r) false)
   | 2 => h = false ∧ vcCall E (st.sv E.T 0 f) ((c.argTypes.toList.zip c.args.toList).map fun p => st.sv E.T p.1 p.2) o.dst K st
   | _ => False
  | _ => if k = 2 then h = false ∧ vcAppE E o st fun e => K (st.eff o.dst e) else vcTk (takes o) l ∧ evD E o (st.sv E.T) st.ow (if h then noneF else st.loc) (if h then (if k = 0 then noneF else hidM o k st) else st.mem) fun e => vcNew st o.dst e ∧ K ((st.takeO (takes o)).eff o.dst e)
 | .move x | .assign x => if l = true then K ((st.take x).put o.dst (st.sv E.T o.type x) (st.ow x && isSlice (st.sv E.T o.type x))) else K (st.put o.dst (st.sv E.T o.type x) false)
 | .makeMap _ _ => if k = 2 then h = false ∧ vcAppE E o st fun e => K (st.eff o.dst e) else evD E o (st.sv E.T) st.ow (if h then noneF else st.loc) (if h then (if k = 0 then noneF else hidM o k st) else st.mem) fun e => vcNew st o.dst e ∧ K (st.eff o.dst e)
 | .box _ _ => if k = 2 then h = false ∧ vcAppE E o st fun e => K (st.eff o.dst e) else evD E o (st.sv E.T) st.ow (if h then noneF else st.loc) (if h then (if k = 0 then noneF else hidM o k st) else st.mem) fun e => vcNew st o.dst e ∧ K (st.eff o.dst e)
 | _ => evD E o (st.sv E.T) st.ow (if h then noneF else st.loc) (if h then (if k = 0 then noneF else hidM o k st) else st.mem) fun e => vcNew st o.dst e ∧ K (st.eff o.dst e)
def vcOpsD (E : Env) (ops : Array Oper) : List Fl → List Oper → (St → Prop) → St → Prop
 | _,[],K,st => K st
 | ⟨h,l,k⟩ :: fl,o :: rest,K,st => vcGuard ops o.guard (vcOpD E o h l k (vcOpsD E ops fl rest K)) (fun st => vcOpsD E ops fl rest K (st.put o.dst undefS false)) st
 | [],_,_,_ => False
def linOf : List Fl → List Oper → Nat → Bool
 | ⟨_,l,_⟩ :: fl,o :: rest,t => (l && (match takes o with | some (.tmp k) => k == t | _ => false)) || linOf fl rest t
 | _,_,_ => false
def hsOf (fl : List Fl) (i : Nat) : Bool := (fl.getD i ⟨false,false,0⟩).h
def ksOf (fl : List Fl) (i : Nat) : Nat := (fl.getD i ⟨false,false,0⟩).k
theorem vcOpD_sound {lin : Nat → Bool} {ops : Array Oper} {o : Oper} {h l : Bool} {k : Nat} (hl : l = true → ∀ t,takes o = some (.tmp t) → lin t = true) {K : St → Prop} {st : St} (hg : DGuard ops o st true) (hv : vcOpD E o h l k K st) :
  DActS E lin h k ops o st fun tk e => K (DTo o tk e st) := by
 have plain : ∀ K : Eff → Prop,vcTk (takes o) l → evD E o (st.sv E.T) st.ow (if h then noneF else st.loc) (if h then (if k = 0 then noneF else hidM o k st) else st.mem) K → (∀ e,K e → vcNew st o.dst e ∧ ∃ K',K' = True) →
   ∃ tk e,DAct E lin h k ops o st tk e ∧ K e ∧ DTo o tk e st = (st.takeO (takes o)).eff o.dst e := by
  intro K ht hv hk
  obtain ⟨e,h1,h2,h3⟩ := evD_some hv
  have hn : ∀ d,o.dst = some d → (∃ cells sl,e = .new cells sl) → st.loc d = none := by
   rintro d hd ⟨c,sl,rfl⟩
   have := (hk _ h2).1
   rw [hd] at this
   exact this
  cases htk : takes o with
  | none => exact ⟨none,e,.inl ⟨hg,.inl ⟨h1,h3,by rw [htk],hn⟩⟩,h2,by rw [DTo_eff]; rfl⟩
  | some x =>
   cases x with
   | tmp t =>
    rw [htk] at ht
    exact ⟨some t,e,.inl ⟨hg,.inl ⟨h1,h3,by rw [htk]; exact ⟨hl ht t htk,rfl⟩,hn⟩⟩,h2,by rw [DTo_eff]; rfl⟩
   | _ => exact ⟨none,e,.inl ⟨hg,.inl ⟨h1,h3,by rw [htk],hn⟩⟩,h2,by rw [DTo_eff]; rfl⟩
 have plain' : vcTk (takes o) l → evD E o (st.sv E.T) st.ow (if h then noneF else st.loc) (if h then (if k = 0 then noneF else hidM o k st) else st.mem) (fun e => vcNew st o.dst e ∧ K ((st.takeO (takes o)).eff o.dst e)) → ∃ tk e,DAct E lin h k ops o st tk e ∧ K (DTo o tk e st) := by
  intro ht hv
  obtain ⟨tk,e,h1,h2,h3⟩ := plain _ ht hv fun e h => ⟨h.1,_,rfl⟩
  exact ⟨tk,e,h1,by rw [h3]; exact h2.2⟩
 have mv : ∀ x,(o.op = .move x ∨ o.op = .assign x) → (if l = true then K ((st.take x).put o.dst (st.sv E.T o.type x) (st.ow x && isSlice (st.sv E.T o.type x))) else K (st.put o.dst (st.sv E.T o.type x) false)) →
   ∃ tk e,DAct E lin h k ops o st tk e ∧ K (DTo o tk e st) := by
  intro x hx hv
  split at hv
  ·rename_i hlt
   have htk : takes o = some x := by unfold takes; rcases hx with hx | hx <;> rw [hx]
   obtain ⟨tk,e,h1,h2,h3⟩ := plain (fun e => e = .put (st.sv E.T o.type x) (st.ow x && isSlice (st.sv E.T o.type x))) (by rw [htk]; unfold vcTk; split <;> first | exact hlt | trivial)
    (by unfold evD ev; rcases hx with hx | hx <;> rw [hx]) (fun e he => by subst he; exact ⟨trivial,_,rfl⟩)
   subst h2
   refine ⟨tk,_,h1,?_⟩
   rw [h3,htk]
   exact hv
  ·exact ⟨none,_,.inl ⟨hg,.inr (.inl ⟨x,hx,rfl,rfl⟩)⟩,by rw [DTo_eff]; exact hv⟩
 unfold vcOpD at hv
 split at hv
 ·rename_i c hop
  split at hv
  ·rename_i f hcf
   obtain ⟨hlen,hv⟩ := hv
   split at hv
   ·unfold vcCallD at hv
    split at hv
    ·rename_i g first caps ys hfe hys
     obtain ⟨r,hp,hk⟩ := hv
     exact .inl ⟨none,_,.inl ⟨hg,.inr (.inr (.inl ⟨c,f,g,first,caps,ys,r,hop,hcf,hlen,hfe,hys,hp,rfl,rfl⟩))⟩,by show K (DTo _ _ _ _); rw [DTo_eff]; exact hk⟩
    ·exact hv.elim
   ·obtain ⟨hh,hv⟩ := hv
    unfold vcCallT at hv
    split at hv
    ·rename_i g first caps ys hfe hys
     obtain ⟨r,m1,hp,hk⟩ := hv
     exact .inl ⟨none,_,.inl ⟨hg,.inr (.inr (.inr ⟨rfl,hh,c,f,g,first,caps,ys,r,m1,hop,hcf,hlen,hfe,hys,hp,rfl,rfl⟩))⟩,by show K (DTo _ _ _ _); rw [DTo_eff]; exact hk⟩
    ·exact hv.elim
   ·obtain ⟨hh,hv⟩ := hv
    refine .inr (.inl ⟨rfl,hh,hg,c,f,hop,hcf,hlen,?_⟩)
    unfold vcCall at hv
    unfold vcCallS
    split at hv
    ·rename_i g first caps ys hfe hys
     rw [hfe,hys]
     exact hv.mono fun r m' hk => by show K (DTo _ _ _ _); rw [DTo_eff]; exact hk
    ·rename_i l first caps ys hfe hys
     rw [hfe,hys]
     refine ⟨fun G w vs h1 h2 h3 => ?_⟩
     obtain ⟨f,tmps,assign,body,hy,hr⟩ := hv.does G w vs h1 h2 h3
     exact ⟨f,tmps,assign,body,hy,hr.mono fun e w' ⟨v,r,m',G',he,hx,hi,hm,hr,hK⟩ => ⟨v,r,m',G',he,hx,hi,hm,hr,by show K (DTo _ _ _ _); rw [DTo_eff]; exact hK⟩⟩
    ·exact hv.elim
   ·exact hv.elim
  ·split at hv
   ·rename_i hk2
    obtain ⟨hh,hv⟩ := hv
    exact .inr (.inr ⟨hk2,hh,hg,(fun s => by unfold storesAt; rw [hop]),vcAppE_congr (fun _ _ _ => rfl) rfl hv fun x m hx => by show K (DTo _ _ _ _); rw [DTo_eff]; exact hx⟩)
   ·exact .inl (plain' hv.1 hv.2)
 ·rename_i x hop; exact .inl (mv x (.inl hop) hv)
 ·rename_i x hop; exact .inl (mv x (.inr hop) hv)
 ·rename_i t r hop
  split at hv
  ·rename_i hk2
   obtain ⟨hh,hv⟩ := hv
   exact .inr (.inr ⟨hk2,hh,hg,(fun s => by unfold storesAt; rw [hop]),vcAppE_congr (fun _ _ _ => rfl) rfl hv fun x m hx => by show K (DTo _ _ _ _); rw [DTo_eff]; exact hx⟩)
  ·have htk : takes o = none := by unfold takes; rw [hop]
   refine .inl (plain' (by rw [htk]; trivial) ?_)
   rw [htk]; exact hv
 ·rename_i t r hop
  split at hv
  ·rename_i hk2
   obtain ⟨hh,hv⟩ := hv
   exact .inr (.inr ⟨hk2,hh,hg,(fun s => by unfold storesAt; rw [hop]),vcAppE_congr (fun _ _ _ => rfl) rfl hv fun x m hx => by show K (DTo _ _ _ _); rw [DTo_eff]; exact hx⟩)
  ·have htk : takes o = none := by unfold takes; rw [hop]
   refine .inl (plain' (by rw [htk]; trivial) ?_)
   rw [htk]; exact hv
 ·rename_i n1 n2 n3 n4 n5
  have htk : takes o = none := by
   unfold takes
   split
   ·rename_i x hop; exact absurd hop (n2 x)
   ·rename_i x hop; exact absurd hop (n3 x)
   ·rename_i c hop; exact absurd hop (n1 c)
   ·rfl
  refine .inl (plain' (by rw [htk]; trivial) ?_)
  rw [htk]; exact hv
theorem vcOpsD_sound {ops : Array Oper} {fl0 : List Fl} {lin : Nat → Bool} {K : St → Prop} : ∀ (l : List Oper) (fl : List Fl) (k : Nat) (st : St),(∀ j,fl.getD j ⟨false,false,0⟩ = fl0.getD (k + j) ⟨false,false,0⟩) →
  (∀ t,linOf fl l t = true → lin t = true) → vcOpsD E ops fl l K st → dLex E lin (hsOf fl0) (ksOf fl0) ops K k l st
 | [],_,_,_,_,_,h => by unfold vcOpsD at h; exact h
 | o :: l,[],_,_,_,_,h => by unfold vcOpsD at h; exact h.elim
 | o :: l,⟨hd,lt,kk⟩ :: fl,k,st,hfl,hlin,h => by
  have e0 : hsOf fl0 k = hd := by have := hfl 0; rw [Nat.add_zero] at this; unfold hsOf; rw [← this]; rfl
  have e1 : ksOf fl0 k = kk := by have := hfl 0; rw [Nat.add_zero] at this; unfold ksOf; rw [← this]; rfl
  have hfl' : ∀ j,fl.getD j ⟨false,false,0⟩ = fl0.getD (k + 1 + j) ⟨false,false,0⟩ := fun j => by have := hfl (j + 1); simpa [Nat.add_assoc,Nat.add_comm 1 j] using this
  have hlin' : ∀ t,linOf fl l t = true → lin t = true := fun t ht => hlin t (by simp [linOf,ht])
  have hl : lt = true → ∀ t,takes o = some (.tmp t) → lin t = true := fun e t ht => hlin t (by simp [linOf,ht,e])
  unfold dLex
  rw [e0,e1]
  have yes : ∀ st,DGuard ops o st true → vcOpD E o hd lt kk (vcOpsD E ops fl l K) st → DActS E lin hd kk ops o st fun tk e => dLex E lin (hsOf fl0) (ksOf fl0) ops K (k + 1) l (DTo o tk e st) := by
   intro st hg hv
   exact (vcOpD_sound (lin := lin) hl hg hv).mono fun tk e h2 => vcOpsD_sound l fl (k + 1) _ hfl' hlin' h2
  have no : ∀ st,DGuard ops o st false → vcOpsD E ops fl l K (st.put o.dst undefS false) → DActS E lin hd kk ops o st fun tk e => dLex E lin (hsOf fl0) (ksOf fl0) ops K (k + 1) l (DTo o tk e st) := by
   intro st hg hv
   exact .inl ⟨none,_,.inr ⟨hg,rfl,rfl⟩,by show dLex _ _ _ _ _ _ _ _ (DTo _ _ _ _); rw [DTo_eff]; exact vcOpsD_sound l fl (k + 1) _ hfl' hlin' hv⟩
  unfold vcOpsD vcGuard at h
  split at h
  ·rename_i hg
   exact yes st (by unfold DGuard; rw [hg]) h
  ·rename_i j want hg
   split at h
   ·exact h.elim
   ·rename_i d hj
    split at h
    ·rename_i b hb
     rw [ite_both] at h
     by_cases e : b = want
     ·subst e
      have h1 := h.1 rfl
      rw [show ({ st with vals := upd st.vals d (.v (.bool b)) } : St) = st by rw [← hb,upd_self]] at h1
      exact yes st (by unfold DGuard; rw [hg]; simp only; rw [hj]; simp only; rw [hb]; simp) h1
     ·have e' : b = !want := by cases b <;> cases want <;> simp_all
      have h2 := h.2 e'
      rw [show ({ st with vals := upd st.vals d (.v (.bool !want)) } : St) = st by rw [← e',← hb,upd_self]] at h2
      refine no st ?_ h2
      have hbw : ∀ b want : Bool,b = !want → false = (b == want) := by decide
      unfold DGuard; rw [hg]; simp only; rw [hj]; simp only; rw [hb]
      exact hbw b want e'
    ·rename_i hb
     exact no st (by unfold DGuard; rw [hg]; simp only; rw [hj]; simp only; rw [hb]; trivial) h
    ·exact h.elim
theorem Inv.drew {G : Gh} {w : World} (h : Inv G w) : Inv G { w with drawn := w.drawn + 1 } := ⟨Below.drew h.below,h.com,h.lock⟩
theorem Rep.drew {com : Nat → Nat} {w : World} {x : AV} {v : Value} (h : Rep com w x v) : Rep com { w with drawn := w.drawn + 1 } x v := Rep.mono (com := com) (com' := com) (w := w) (w' := { w with drawn := w.drawn + 1 }) (fun _ => Nat.le_refl _) (fun _ _ _ => rfl) h
theorem BoxRep.drew {com : Nat → Nat} {w : World} {b : Nat} {x : Box} (h : BoxRep com w b x) : BoxRep com { w with drawn := w.drawn + 1 } b x := by
 cases x with
 | cells l => obtain ⟨cs,e,h1,h2,h3⟩ := h; exact ⟨cs,e,h1,h2,fun i x v a b => (h3 i x v a b).drew⟩
 | map kv =>
  obtain ⟨es,clock,h1,h2,h3⟩ := h
  exact ⟨es,clock,h1,h2,fun i k x m hk hm => ⟨(h3 i k x m hk hm).1.drew,(h3 i k x m hk hm).2.drew⟩⟩
 | iter s pos => exact h
 | loop s j r =>
  obtain ⟨fn,tmps,d,h1,h2,h3⟩ := h
  exact ⟨fn,tmps,d,h1,h2,fun i => (h3 i).drew⟩
theorem FRel.drew {G : Gh} {w : World} {a : Act} {st : St} (h : FRel G w a st) : FRel G { w with drawn := w.drawn + 1 } a st := by
 obtain ⟨β,R,h⟩ := h
 refine ⟨β,R,h.defers.ext rfl (Nat.le_refl _) (fun _ h => h) (fun _ _ => rfl),fun s => ?_,h.own,fun i l hl => ?_,h.ref,fun b x hx => ?_,h.rmem,h.rlt⟩
 ·have := h.vals s
  generalize st.vals s = x at this ⊢
  cases x with
  | v x => exact Rep.drew this
  | _ => exact this
 ·obtain ⟨⟨h1,h2,h3,h4⟩,h5⟩ := h.loc i l hl
  exact ⟨⟨h1,h2,h3,h4.drew⟩,h5⟩
 ·obtain ⟨h1,h2,h3,h4,h5⟩ := h.mem b x hx
  exact ⟨h1,h2,h3,h4,h5.drew⟩
def drawOk (fl : List Fl) (ops : Array Oper) : Bool := lexD (linOf fl ops.toList) (hsOf fl) (ksOf fl) ops ops.size 0 (Array.replicate ops.size false)
theorem adraw (hE : EnvOk E) (hm : E.P.follows .mixedOrders = true) (fl : List Fl) {ops : Array Oper} (hok : drawOk fl ops = true) {n : Nat} {K : St → Prop} {st : St} (h : vcOpsD E ops fl ops.toList K st) : ADraw E n ops K st .mk := by
 refine ⟨fun hd id r _ G w a hi hf hs => ?_⟩
 refine wpIn_region_any hm ?_
 have hl := vcOpsD_sound (fl0 := fl) (lin := linOf fl ops.toList) (K := K) ops.toList fl 0 st (by simp) (fun t ht => ht) h
 have ha := dAny_lex (E := E) ops.toList 0 (Array.replicate ops.size false) st (by simp) (fun k ok _ hl => by rw [Array.getD_eq_getD_getElem?,Array.getElem?_replicate] at hl; split at hl <;> cases hl) (by simpa [drawOk] using hok) hl
 have hx : Ext G w G { w with drawn := w.drawn + 1 } := ⟨rfl,rfl,Nat.le_refl _,fun _ => Nat.le_refl _,fun _ _ _ => rfl,fun _ _ => ⟨rfl,rfl⟩⟩
 have := wpAny_of_dAny hE (r := r) (Q := fun e a' w' => Sat n G w (fun e st' => e = .normal ∧ K st') e a' w') hd (fun a' w' G' st' hx' hi' hf' hs' hk => ⟨G',st',hx'.toL,hi',hf',hs',rfl,hk⟩) ops.toList.length _ _ G _ a hx
  ?_ ?_ hs ha
 ·simpa using this
 ·exact hi.drew
 ·exact hf.drew
theorem vcOpsP_sound {ops : Array Oper} {fl0 : List Fl} {lin : Nat → Bool} {K : St → Prop} : ∀ (l : List Nat) (st : St),
  (∀ i ∈ l,∀ t,(fl0.getD i ⟨false,false,0⟩).l = true → takes ((ops.toList[i]?).getD default) = some (.tmp t) → lin t = true) →
  vcOpsD E ops (l.map fun i => fl0.getD i ⟨false,false,0⟩) (l.map fun i => (ops.toList[i]?).getD default) K st → dLexP E lin (hsOf fl0) (ksOf fl0) ops K l st
 | [],_,_,h => by simp only [List.map_nil] at h; unfold vcOpsD at h; exact h
 | i :: l,st,hlin,h => by
  simp only [List.map_cons] at h
  have e0 : hsOf fl0 i = (fl0.getD i ⟨false,false,0⟩).h := rfl
  have e1 : ksOf fl0 i = (fl0.getD i ⟨false,false,0⟩).k := rfl
  have hl := hlin i (by simp)
  have hlin' := fun j hj => hlin j (List.mem_cons_of_mem _ hj)
  unfold dLexP
  rw [e0,e1]
  generalize fl0.getD i ⟨false,false,0⟩ = f at *
  obtain ⟨hd,lt,kk⟩ := f
  generalize (ops.toList[i]?).getD default = o at *
  have yes : ∀ st,DGuard ops o st true → vcOpD E o hd lt kk (vcOpsD E ops (l.map fun i => fl0.getD i ⟨false,false,0⟩) (l.map fun i => (ops.toList[i]?).getD default) K) st → DActS E lin hd kk ops o st fun tk e => dLexP E lin (hsOf fl0) (ksOf fl0) ops K l (DTo o tk e st) := by
   intro st hg hv
   exact (vcOpD_sound (lin := lin) (fun e t ht => hl t e ht) hg hv).mono fun tk e h2 => vcOpsP_sound l _ hlin' h2
  have no : ∀ st,DGuard ops o st false → vcOpsD E ops (l.map fun i => fl0.getD i ⟨false,false,0⟩) (l.map fun i => (ops.toList[i]?).getD default) K (st.put o.dst undefS false) → DActS E lin hd kk ops o st fun tk e => dLexP E lin (hsOf fl0) (ksOf fl0) ops K l (DTo o tk e st) := by
   intro st hg hv
   exact .inl ⟨none,_,.inr ⟨hg,rfl,rfl⟩,by show dLexP _ _ _ _ _ _ _ (DTo _ _ _ _); rw [DTo_eff]; exact vcOpsP_sound l _ hlin' hv⟩
  unfold vcOpsD vcGuard at h
  split at h
  ·rename_i hg
   exact yes st (by unfold DGuard; rw [hg]) h
  ·rename_i j want hg
   split at h
   ·exact h.elim
   ·rename_i d hj
    split at h
    ·rename_i b hb
     rw [ite_both] at h
     by_cases e : b = want
     ·subst e
      have h1 := h.1 rfl
      rw [show ({ st with vals := upd st.vals d (.v (.bool b)) } : St) = st by rw [← hb,upd_self]] at h1
      exact yes st (by unfold DGuard; rw [hg]; simp only; rw [hj]; simp only; rw [hb]; simp) h1
     ·have e' : b = !want := by cases b <;> cases want <;> simp_all
      have h2 := h.2 e'
      rw [show ({ st with vals := upd st.vals d (.v (.bool !want)) } : St) = st by rw [← e',← hb,upd_self]] at h2
      refine no st ?_ h2
      have hbw : ∀ b want : Bool,b = !want → false = (b == want) := by decide
      unfold DGuard; rw [hg]; simp only; rw [hj]; simp only; rw [hb]
      exact hbw b want e'
    ·rename_i hb
     exact no st (by unfold DGuard; rw [hg]; simp only; rw [hj]; simp only; rw [hb]; trivial) h
    ·exact h.elim
def linP (fl : List Fl) (ops : Array Oper) (l : List Nat) (t : Nat) : Bool := l.any fun i => (fl.getD i ⟨false,false,0⟩).l && (match takes ((ops.toList[i]?).getD default) with | some (.tmp k) => k == t | _ => false)
def drawOkP (l : List Nat) (fl : List Fl) (ops : Array Oper) : Bool := (l.length == ops.size) && lexP (linP fl ops l) (hsOf fl) (ksOf fl) ops l (Array.replicate ops.size false)
theorem adrawP (hE : EnvOk E) (hm : E.P.follows .mixedOrders = true) (l : List Nat) (fl : List Fl) {ops : Array Oper} (hok : drawOkP l fl ops = true) {n : Nat} {K : St → Prop} {st : St}
  (h : vcOpsD E ops (l.map fun i => fl.getD i ⟨false,false,0⟩) (l.map fun i => (ops.toList[i]?).getD default) K st) : ADraw E n ops K st .mk := by
 refine ⟨fun hd id r _ G w a hi hf hs => ?_⟩
 refine wpIn_region_any hm ?_
 unfold drawOkP at hok
 rw [Bool.and_eq_true,beq_iff_eq] at hok
 have hl := vcOpsP_sound (fl0 := fl) (lin := linP fl ops l) (K := K) l st (fun i hi t h1 h2 => by
  unfold linP
  rw [List.any_eq_true]
  exact ⟨i,hi,by rw [h1,h2]; simp⟩) h
 have ha := dAny_lexP (E := E) l (Array.replicate ops.size false) st (fun k ok _ hl => by rw [Array.getD_eq_getD_getElem?,Array.getElem?_replicate] at hl; split at hl <;> cases hl) hok.2 hl
 rw [hok.1] at ha
 have hx : Ext G w G { w with drawn := w.drawn + 1 } := ⟨rfl,rfl,Nat.le_refl _,fun _ => Nat.le_refl _,fun _ _ _ => rfl,fun _ _ => ⟨rfl,rfl⟩⟩
 have := wpAny_of_dAny hE (r := r) (Q := fun e a' w' => Sat n G w (fun e st' => e = .normal ∧ K st') e a' w') hd (fun a' w' G' st' hx' hi' hf' hs' hk => ⟨G',st',hx'.toL,hi',hf',hs',rfl,hk⟩) ops.size _ _ G _ a hx
  ?_ ?_ hs ha
 ·exact this
 ·exact hi.drew
 ·exact hf.drew
end
end Go.Proofs.YteppmjlfpniiaaaGreat.Abs
/- The abstract machine,part 32: copies from one block of shared memory to another one; a block is frozen ahead of a statement whose order is open. -/
namespace Go.Proofs.YteppmjlfpniiaaaGreat.Abs
set_option linter.unusedSimpArgs false
open Go Go.RowKit
section
variable {E : Env} {G : Gh} {w : World} {a : Act} {st : St} {n : Nat}
theorem Reps.cut {com : Nat → Nat} {w : World} {l : List AV} {cs : List Value} (h : Reps com w l cs) (s n : Nat) : Reps com w ((l.drop s).take n) ((cs.drop s).take n) := by
 obtain ⟨h1,h2⟩ := h
 refine ⟨by simp [h1],fun i x v hx hv => ?_⟩
 have hi : i < n := by
  have := (List.getElem?_eq_some_iff.1 hx).1
  rw [List.length_take] at this
  omega
 rw [List.getElem?_take_of_lt hi,List.getElem?_drop] at hx hv
 exact h2 _ _ _ hx hv
theorem ADraw.melt {ops : Array Oper} {K : St → Prop} (b sz : Nat) (es tail : List AV) (hb : st.mem b = some (.cells ((es.map AV.cells).flatten ++ tail))) (hes : ∀ e ∈ es,e.cells.length = sz ∧ e.cells.all flat = true) (h : ADraw E n ops K (st.melt b sz es) .mk) : ADraw E n ops K st .mk := by
 refine ⟨fun hd id r hr G w a hi ⟨β,R,hf⟩ hs => ?_⟩
 obtain ⟨x,i',f'⟩ := hf.melt hi hb hes
 refine wpIn_mono (h.does hd id r hr _ w a i' ⟨β,R,f'⟩ hs) fun e a' w' q => ?_
 obtain ⟨G2,st2,x2,q⟩ := q
 exact ⟨G2,st2,x.toL.trans x2,q⟩
end
end Go.Proofs.YteppmjlfpniiaaaGreat.Abs
/- The abstract machine,part 33: a call leaves alone a block that it is not told of. -/
namespace Go.Proofs.YteppmjlfpniiaaaGreat.Abs
set_option linter.unusedSimpArgs false
open Go Go.RowKit
theorem ACall.frame {P : Program} {f : FuncId} {xs : List AV} {m : Mem} {K : AV → Mem → Prop} {b : Nat} {y : Box} (hb : m b = none) (h : ACall P f xs m K) :
  ACall P f xs (upd m b (some y)) fun r m'' => ∃ m',K r m' ∧ m' b = none ∧ m'' = upd m' b (some y) := by
 refine ⟨h.enters,fun G w vs hi hm hr => ?_⟩
 obtain ⟨b1,b2,b3,b4,b5⟩ := hm b y (upd_same _ _ _)
 let G2 : Gh := { G with lock := fun k => G.lock k ∨ k = b }
 have hi2 : Inv G2 w := ⟨hi.below,hi.com,fun k hk => by
  rcases hk with hk | rfl
  ·exact hi.lock k hk
  ·exact b2⟩
 have hm2 : MemRep G2 w m := fun k x hk => by
  have hne : k ≠ b := fun e => by rw [e,hb] at hk; cases hk
  obtain ⟨c1,c2,c3,c4,c5⟩ := hm k x (by rw [upd_ne _ _ hne]; exact hk)
  exact ⟨c1,c2,fun q => q.elim c3 hne,c4,c5⟩
 refine (h.does G2 w vs hi2 hm2 hr).mono fun e w' ⟨v,r,m',G',he,hx,hi',hm',hr',hK⟩ => ?_
 have hlk : G'.lock = G2.lock := hx.lock
 have hnone : m' b = none := by
  cases q : m' b with
  | none => rfl
  | some x =>
   have := (hm' b x q).2.2.1
   rw [hlk] at this
   exact absurd (.inr rfl) this
 obtain ⟨hh,hc⟩ := hx.held b (.inr rfl)
 let G3 : Gh := { G' with lock := G.lock }
 have hx3 : Ext G w G3 w' := ⟨hx.z,rfl,hx.size,hx.com,hx.cell,fun k hk => hx.held k (.inl hk)⟩
 have hi3 : Inv G3 w' := ⟨hi'.below,hi'.com,fun k hk => Nat.lt_of_lt_of_le (hi.lock k hk) hx.size⟩
 refine ⟨v,r,upd m' b (some y),G3,he,hx3,hi3,fun k x hk => ?_,hr',m',hK,hnone,rfl⟩
 by_cases q : k = b
 ·subst q
  rw [upd_same] at hk
  injection hk with hk
  subst hk
  refine ⟨?_,Nat.lt_of_lt_of_le b2 hx.size,b3,?_,b5.ext hx3 hh⟩
  ·have : G3.W0 = G.W0 := hx3.W0
   rw [this]; exact b1
  ·show G'.com k = 0
   rw [hc]; exact b4
 ·rw [upd_ne _ _ q] at hk
  obtain ⟨c1,c2,c3,c4,c5⟩ := hm' k x hk
  refine ⟨c1,c2,fun w => c3 (by rw [hlk]; exact .inl w),c4,c5⟩
end Go.Proofs.YteppmjlfpniiaaaGreat.Abs
/- The abstract machine,part 36: calls with a nil slice; appends of nothing; copies of less than there is room for; slices that are no nil ones; calls that are lent memory. -/
namespace Go.Proofs.YteppmjlfpniiaaaGreat.Abs
set_option linter.unusedSimpArgs false
open Go Go.RowKit
section
variable {E : Env} {G : Gh} {w : World} {a : Act} {st : St} {n : Nat}
def vcCallN (E : Env) (o : Oper) (K : St → Prop) (st : St) : Prop :=
 match o.op with
 | .call c => match c.callee,c.args.toList with
  | .value (.func f),[.const (.slice none 0 0),y] => match st.sv E.T 0 y with
   | .v y' => VCall E.P f [.mslice 0 0 0 0,y'] st.mem (fun r m' => K ({ st with mem := m' }.put o.dst (.v r) false)) .mk
   | _ => False
  | _,_ => False
 | _ => False
theorem vcCallN_sound (_hE : EnvOk E) {o : Oper} {K : St → Prop} (h : vcCallN E o K st) (hd : dstOk n o = true) (hi : Inv G w) (hf : FRel G w a st) (hs : a.tmps.size = n) {r : Option Nat}
  {next : Act → World → Prop} {Q : Exit → Act → World → Prop} (hn : ∀ a' w' G' st',Ext G w G' w' → Inv G' w' → FRel G' w' a' st' → a'.tmps.size = n → K st' → next a' w') : o.wpIn (fen r) 0 E.P a w next Q := by
 have hd' : ∀ t,o.dst = some t → t < a.tmps.size := fun t ht => by rw [hs]; simpa [dstOk,ht] using hd
 obtain ⟨β,R,hf⟩ := hf
 unfold vcCallN at h
 split at h
 ·rename_i c hop
  split at h
  ·rename_i f y hcf hys
   split at h
   ·rename_i y' hy
    have q := hf.eval E.T 0 y
    rw [hy] at q
    have hall : Reps G.com w [.mslice 0 0 0 0,y'] (c.args.toList.map a.eval) := by
     rw [hys]
     exact Reps.cons (.nilm _ _) (Reps.cons (srep_v q) Reps.nil)
    have hcall := call_sound hi hf h hall
    have hval : a.eval (.func f) = .func (.func f) #[] #[] := rfl
    have hrun : (execOp a.eval o).run E.P w = .ok (.enter f (c.args.toList.map a.eval).toArray) w := by
     have e2 : (#[] ++ c.args.map a.eval ++ #[]) = (c.args.toList.map a.eval).toArray := by
      apply Array.ext'; simp
     unfold execOp
     simp only [hop,resolve,hcf,hval,Deferred.ofValue,Sem.run_bind,Sem.run_pure,Result.andThen_ok,invoke]
     rw [h.1,e2]
    refine oper_in (fun c hc => by rw [hop] at hc; cases hc) ?_
    rw [hrun]
    refine ⟨fen_depth r,(calls_fen hcall).mono ?_⟩
    rintro e w' ⟨v,r,m',G',R',rfl,hx,hi',hf',hr,hK⟩
    have hfp := hf'.put (d := o.dst) (x := .v r) hd' hr (fun i h => h.elim)
    exact hn _ _ G' _ hx hi' ⟨β,R',hfp⟩ (by rw [put_size]; exact hs) hK
   ·exact h.elim
  ·exact h.elim
 ·exact h.elim
def vcAppZ (E : Env) (o : Oper) (K : St → Prop) (st : St) : Prop :=
 match o.dst,o.op with
 | some d,.call c => match c.callee,c.argTypes.toList,c.args.toList with
  | .builtin .append,[t,t2],[s,y2] => match E.T t,st.sv E.T t s,st.sv E.T t2 y2 with
   | some ⟨.slice e,_,_,_⟩,.v (.mslice b off len cap),.v (.slice sz2 []) => match E.T e with
    | some i => (t2 = t ∧ sz2 = i.size ∧ len ≤ cap) ∧ K (st.put (some d) (.v (.mslice b off len cap)) false)
    | none => False
   | _,_,_ => False
  | _,_,_ => False
 | _,_ => False
theorem vcAppZ_sound (hE : EnvOk E) {o : Oper} {K : St → Prop} (h : vcAppZ E o K st) (hd : dstOk n o = true) (hi : Inv G w) (hf : FRel G w a st) (hs : a.tmps.size = n) {r : Option Nat}
  {next : Act → World → Prop} {Q : Exit → Act → World → Prop} (hn : ∀ a' w' G' st',Ext G w G' w' → Inv G' w' → FRel G' w' a' st' → a'.tmps.size = n → K st' → next a' w') : o.wpIn (fen r) 0 E.P a w next Q := by
 have hd' : ∀ t,o.dst = some t → t < a.tmps.size := fun t ht => by rw [hs]; simpa [dstOk,ht] using hd
 obtain ⟨β,R,hf⟩ := hf
 unfold vcAppZ at h
 split at h
 ·rename_i d c hdst hop
  split at h
  ·rename_i t t2 s y2 hcb hts hys
   split at h
   ·rename_i e sz0 by0 z0 b off len cap sz2 hT hv hy
    split at h
    ·rename_i i hTe
     obtain ⟨⟨rfl,rfl,hlc⟩,hk⟩ := h
     obtain ⟨dd,hdd,hu,hr⟩ := run_und hE hT
     cases dd <;> simp only [descOk] at hdd
     subst hdd
     have ok := hE _ _ hTe
     obtain ⟨fi,zv,d',g1,g2,g3,g4,g5,g6,g7,g8⟩ := ok.ex
     have q1 := hf.eval E.T t2 s
     rw [hv] at q1
     have q2 := hf.eval E.T t2 y2
     rw [hy] at q2
     obtain ⟨news,hn1,hn2,hn3,hn4,hn5⟩ := slice_row (srep_v q2)
     have hnil : news = [] := by have := hn1.1; simpa using this
     subst hnil
     have h4 := fun w' => hn4 E.P w'
     have h3 := hn3 E.P w (fun _ => rfl)
     simp only [List.length_nil] at h4 h3
     have hrun : (Builtin.append_ #[t2,t2] o.type #[a.eval s,a.eval y2]).run E.P w = .ok (a.eval s) w := by
      rcases rep_mslice (srep_v q1) with e | ⟨_,_,e⟩ <;> rw [e]
      ·simp [Builtin.append_,run_underlying hu,sizeOf,typeInfo,g1,h4,hlc,g2,h3,storeCells]
      ·simp [Builtin.append_,run_underlying hu,sizeOf,typeInfo,g1,h4,g2,h3]
     have hexec : (execOp a.eval o).run E.P w = .ok (.value (a.eval s)) w := by
      have e1 : c.argTypes = #[t2,t2] := by apply Array.ext'; simp [hts]
      have e2 : c.args.map a.eval = #[a.eval s,a.eval y2] := by apply Array.ext'; rw [Array.toList_map,hys]; rfl
      unfold execOp
      simp only [hop,resolve,hcb,Sem.run_bind,Sem.run_pure,Result.andThen_ok,invoke]
      rw [e1,e2]
      simp [builtin,hrun]
     refine oper_in (fun c hc => by rw [hop] at hc; cases hc) ?_
     rw [hexec]
     have hput := hf.put (d := some d) (x := .v (.mslice b off len cap)) (v := a.eval s) (fun t ht => by cases ht; exact hd' d hdst) (srep_v q1) (fun _ h => h.elim)
     have hnn := hn _ _ G _ (Ext.refl _ _) hi ⟨β,R,hput⟩ (by rw [put_size]; exact hs) hk
     show next (a.put o.dst _) _
     rw [hdst]
     exact hnn
    ·exact h.elim
   ·exact h.elim
  ·exact h.elim
 ·exact h.elim
def vcNilS (E : Env) (o : Oper) (K : St → Prop) (st : St) : Prop :=
 match o.op with
 | .binOp .eql t x (.const (.slice none 0 0)) _ => match E.T t,st.sv E.T t x with
  | some ⟨.slice _,_,_,_⟩,.v (.slice _ (_ :: _)) => K (st.put o.dst (.v (.bool false)) false)
  | _,_ => False
 | _ => False
theorem vcNilS_sound (hE : EnvOk E) {o : Oper} {K : St → Prop} (h : vcNilS E o K st) (hd : dstOk n o = true) (hi : Inv G w) (hf : FRel G w a st) (hs : a.tmps.size = n) {r : Option Nat}
  {next : Act → World → Prop} {Q : Exit → Act → World → Prop} (hn : ∀ a' w' G' st',Ext G w G' w' → Inv G' w' → FRel G' w' a' st' → a'.tmps.size = n → K st' → next a' w') : o.wpIn (fen r) 0 E.P a w next Q := by
 have hd' : ∀ t,o.dst = some t → t < a.tmps.size := fun t ht => by rw [hs]; simpa [dstOk,ht] using hd
 obtain ⟨β,R,hf⟩ := hf
 unfold vcNilS at h
 split at h
 ·rename_i t x yt hop
  split at h
  ·rename_i e sz0 by0 z0 sz y l hT hv
   obtain ⟨dd,hdd,hu,hr⟩ := run_und hE hT
   cases dd <;> simp only [descOk] at hdd
   have q1 := hf.eval E.T t x
   rw [hv] at q1
   have hne : ∃ b off len cap,a.eval x = .slice (some ⟨b,off,none⟩) len cap := by
    rcases rep_slice (srep_v q1) with ⟨h0,_⟩ | ⟨b,off,cap,vs,e,_⟩
    ·cases h0
    ·exact ⟨b,off,_,cap,e⟩
   obtain ⟨b,off,len,cap,hval⟩ := hne
   have hexec : (execOp a.eval o).run E.P w = .ok (.value (.bool false)) w := by
    have h1 := Go.Lib.run_eql_slice_nil (P := E.P) w t _ (some ⟨b,off,none⟩) len cap 0 0 hu
    unfold execOp
    simp only [hop,hval]
    show (do eqGuard .eql t x (.const (.slice none 0 0)) (.slice (some ⟨b,off,none⟩) len cap) (.slice none 0 0); pure (Next.value (← binOp .eql t (.slice (some ⟨b,off,none⟩) len cap) (.slice none 0 0)))).run E.P w = _
    rw [Sem.run_bind,show (eqGuard .eql t x (.const (.slice none 0 0)) (.slice (some ⟨b,off,none⟩) len cap) (.slice none 0 0)) = pure () from rfl,Sem.run_pure,Result.andThen_ok,Sem.run_bind,h1]
    rfl
   refine oper_in (fun c hc => by rw [hop] at hc; cases hc) ?_
   rw [hexec]
   have hput := hf.put (d := o.dst) (x := .v (.bool false)) (v := .bool false) hd' (.bool _) (fun _ h => h.elim)
   exact hn _ _ G _ (Ext.refl _ _) hi ⟨β,R,hput⟩ (by rw [put_size]; exact hs) h
  ·exact h.elim
 ·exact h.elim
def vcCopyT (E : Env) (o : Oper) (K : St → Prop) (st : St) : Prop :=
 match o.dst,o.op with
 | some d,.call c => match c.callee,c.argTypes.toList,c.args.toList with
  | .builtin .copy,[t,t2],[x,y] => match E.T t,st.sv E.T t x,st.sv E.T t2 y with
   | some ⟨.slice e,_,_,_⟩,.v (.mslice i off len _),.v (.slice sz l) => match E.T e,st.mem i with
    | some ei,some (.cells cells) => (ei.size = sz ∧ l.length ≤ len ∧ off + len * sz ≤ cells.length) ∧
     K (st.eff (some d) (.mput (.int .i64 l.length) i (.cells (overlay cells off (l.map AV.cells).flatten))))
    | _,_ => False
   | _,_,_ => False
  | _,_,_ => False
 | _,_ => False
theorem vcCopyT_sound (hE : EnvOk E) {o : Oper} {K : St → Prop} (h : vcCopyT E o K st) (hd : dstOk n o = true) (hi : Inv G w) (hf : FRel G w a st) (hs : a.tmps.size = n) {r : Option Nat}
  {next : Act → World → Prop} {Q : Exit → Act → World → Prop} (hn : ∀ a' w' G' st',Ext G w G' w' → Inv G' w' → FRel G' w' a' st' → a'.tmps.size = n → K st' → next a' w') : o.wpIn (fen r) 0 E.P a w next Q := by
 have hd' : ∀ t,o.dst = some t → t < a.tmps.size := fun t ht => by rw [hs]; simpa [dstOk,ht] using hd
 obtain ⟨β,R,hf⟩ := hf
 unfold vcCopyT at h
 split at h
 ·rename_i d c hdst hop
  split at h
  ·rename_i t t2 x y hcb hts hys
   split at h
   ·rename_i e sz0 by0 z0 i off len cap sz l hT hx hy
    split at h
    ·rename_i ei cells hTe hl
     obtain ⟨⟨rfl,hll,hroom⟩,hk⟩ := h
     have hmul : l.length * ei.size ≤ len * ei.size := Nat.mul_le_mul_right _ hll
     have hmin : min len l.length = l.length := by omega
     have hmin2 : l.length.min len = l.length := Nat.min_eq_left hll
     obtain ⟨dd,hu,hdd⟩ := (hE _ _ hT).desc
     cases dd <;> simp only [descOk] at hdd
     subst hdd
     have hsz := (hE _ _ hTe).size w
     have q1 := hf.eval E.T t x
     rw [hx] at q1
     have q2 := hf.eval E.T t2 y
     rw [hy] at q2
     obtain ⟨news,hrow,hfl,hfc,hlen,hml⟩ := slice_row (srep_v q2)
     have hf1 := hfc E.P w (fun _ => rfl)
     have hl1 := hlen E.P w
     have hnl : news.length = l.length * ei.size := hrow.1
     have hcut : Reps G.com w (l.map AV.cells).flatten news := hrow.flat
     have fin : ∀ (vx : Value) (w' : World),a.eval x = vx → (Builtin.copy_ #[t,t2] o.type #[vx,a.eval y]).run E.P w = .ok (.int .i64 l.length) w' → Ext G w G w' → Inv G w' → FRel G w' (a.put (some d) (.int .i64 l.length)) (st.eff (some d) (.mput (.int .i64 l.length) i (.cells (overlay cells off (l.map AV.cells).flatten)))) → o.wpIn (fen r) 0 E.P a w next Q := by
      intro vx w' hvx hrun x1 x2 x3
      have hexec : (execOp a.eval o).run E.P w = .ok (.value (.int .i64 l.length)) w' := by
       have e1 : c.argTypes = #[t,t2] := by apply Array.ext'; simp [hts]
       have e2 : c.args.map a.eval = #[a.eval x,a.eval y] := by apply Array.ext'; rw [Array.toList_map,hys]; rfl
       unfold execOp
       simp only [hop,resolve,hcb,Sem.run_bind,Sem.run_pure,Result.andThen_ok,invoke]
       rw [e1,e2,hvx]
       simp [builtin,hrun]
      refine oper_in (fun c hc => by rw [hop] at hc; cases hc) ?_
      rw [hexec]
      have hnn := hn _ _ G _ x1 x2 x3 (by rw [put_size]; exact hs) hk
      show next (a.put o.dst _) _
      rw [hdst]
      exact hnn
     have hdd : ∀ t,some d = some t → t < a.tmps.size := fun t ht => hd' t (by rw [hdst]; exact ht)
     by_cases hlz : news = []
     ·have hov : overlay cells off (l.map AV.cells).flatten = cells := by
       have e0 : (l.map AV.cells).flatten = [] := List.eq_nil_of_length_eq_zero (by rw [hcut.1,hlz]; rfl)
       rw [e0]
       unfold overlay; simp
      have hsame : St.eff st (some d) (.mput (.int .i64 l.length) i (.cells (overlay cells off (l.map AV.cells).flatten))) = st.put (some d) (.v (.int .i64 l.length)) false := by
       rw [hov]
       have e2 : upd st.mem i (some (.cells cells)) = st.mem := by
        funext k
        unfold upd
        by_cases q : k = i
        ·rw [if_pos q,q,hl]
        ·rw [if_neg q]
       simp only [St.eff,e2]
      have hput := hf.put (d := some d) (x := .v (.int .i64 l.length)) (v := .int .i64 l.length) hdd (.int _ _) (fun _ h => h.elim)
      have hfr : FRel G w (a.put (some d) (.int .i64 l.length)) (st.eff (some d) (.mput (.int .i64 l.length) i (.cells (overlay cells off (l.map AV.cells).flatten)))) := by
       rw [hsame]; exact ⟨β,R,hput⟩
      subst hlz
      rcases rep_mslice (srep_v q1) with e | ⟨_,_,e⟩
      ·refine fin _ w e ?_ (Ext.refl _ _) hi hfr
       simp [Builtin.copy_,Sem.run_bind,run_underlying hu,Result.andThen_ok,hl1,hsz,hf1,hmin2,goInt]
       rfl
      ·refine fin _ w e ?_ (Ext.refl _ _) hi hfr
       have h0 : l.length = 0 := by omega
       rw [h0] at hl1 hf1 ⊢
       simp [Builtin.copy_,Sem.run_bind,run_underlying hu,Result.andThen_ok,hl1,hsz,hf1,hmin2,goInt]
     ·have hpos : 0 < l.length := by
       rcases Nat.eq_zero_or_pos l.length with h0 | h0
       ·rw [h0,Nat.zero_mul] at hnl
        exact absurd (List.eq_nil_of_length_eq_zero hnl) hlz
       ·exact h0
      have hvx := rep_mslice_pos (srep_v q1) (.inl (by omega))
      obtain ⟨_,_,_,_,old,eo,hbl,hrc⟩ := hf.mem i _ hl
      have hol : old.length = cells.length := hrc.1.symm
      have hst : (storeCells ⟨i,off,none⟩ news).run E.P w = .ok () (w.setBlock' i (.cells (writeAt old off news).toArray eo (0,0))) := by
       have := storeCells_run (P := E.P) (b := i) (off := off) (e := eo) news 0 w old hbl (by rw [hnl,hol]; omega) (row_plain hrow hfl)
       simpa using this
      have hm := hf.mset hi hl (o := .cells (writeAt old off news).toArray eo (0,0)) (y := .cells (overlay cells off (l.map AV.cells).flatten)) (fun w' hw' hx' => ⟨_,_,hw',(hrc.overlay hcut off).ext hx'⟩) none (fun t ht => by cases ht)
      obtain ⟨h1,h2,h3⟩ := hm
      have h3' : FRelB G _ β R a { st with mem := upd st.mem i (some (.cells (overlay cells off (l.map AV.cells).flatten))) } := h3
      have hfin := h3'.put (d := some d) (x := .v (.int .i64 l.length)) hdd (.int _ _) (fun _ h => h.elim)
      refine fin _ _ hvx ?_ h1 h2 ⟨β,R,hfin⟩
      simp [Builtin.copy_,Sem.run_bind,run_underlying hu,Result.andThen_ok,hl1,hsz,hf1,hmin2,hst,goInt]
    ·exact h.elim
   ·exact h.elim
  ·exact h.elim
 ·exact h.elim
end
theorem ACall.weak {P : Program} {f : FuncId} {xs : List AV} {m : Mem} {K : AV → Mem → Prop} (h : ACall P f xs m fun r' m' => ∃ r,(∀ com w v,Rep com w r' v → Rep com w r v) ∧ K r m') : ACall P f xs m K :=
 ⟨h.enters,fun G w vs h1 h2 h3 => (h.does G w vs h1 h2 h3).mono fun _ _ ⟨v,_,m',G',he,hx,hi,hm,hr,r,hw,hK⟩ => ⟨v,r,m',G',he,hx,hi,hm,hw _ _ _ hr,hK⟩⟩
theorem weak_nil {com : Nat → Nat} {w : World} {b off cap sz : Nat} (hc : cap ≤ maxLen) {v : Value} (h : Rep com w (.mslice b off 0 cap) v) : Rep com w (.slice sz []) v := by
 rcases rep_mslice h with e | ⟨_,_,e⟩
 ·rw [e]; exact .emptyslice _ _ _ hc
 ·rw [e]; exact .nilslice _
def lentC (G : Gh) (m : Mem) (b : Nat) : Nat := match m b with
 | some (.cells l) => l.length
 | some _ => 0
 | none => G.com b
theorem ACall.lend {P : Program} {f : FuncId} {xs xs' : List AV} {m : Mem} {K : AV → Prop} (h : ACall P f xs' (fun _ => none) fun r _ => K r) (hK : ∀ r,K r → (∃ b,r = .bool b) ∨ ∃ k n,r = .int k n)
  (hx : ∀ (G : Gh) (w : World) (vs : List Value),MemRep G w m → Reps G.com w xs vs → Reps (lentC G m) w xs' vs) : ACall P f xs m fun r m' => K r ∧ m' = m := by
 refine ⟨h.enters,fun G w vs hi hm hr => ?_⟩
 let G1 : Gh := { G with com := lentC G m,lock := fun k => G.lock k ∨ m k ≠ none }
 have hcom : ∀ b,G.com b ≤ lentC G m b := fun b => by
  unfold lentC
  split
  ·rename_i l hb
   rw [(hm b _ hb).2.2.2.1]; exact Nat.zero_le _
  ·rename_i x hb _
   rw [(hm b _ ‹_›).2.2.2.1]; exact Nat.zero_le _
  ·exact Nat.le_refl _
 have hi1 : Inv G1 w := by
  refine ⟨hi.below,fun b hb => ?_,fun k hk => ?_⟩
  ·have hb' : lentC G m b ≠ 0 := hb
   show isCells w b (lentC G m b)
   unfold lentC at hb' ⊢
   split
   ·rename_i l hl
    obtain ⟨_,_,_,_,cs,e,h1,h2⟩ := hm b _ hl
    exact ⟨_,_,_,h1,by rw [List.size_toArray,h2.1]; exact Nat.le_refl _⟩
   ·rename_i hb2
    simp only [‹m b = _›] at hb'
    exact absurd rfl hb'
   ·rename_i hl
    rw [hl] at hb'
    exact hi.com b hb'
  ·rcases hk with hk | hk
   ·exact hi.lock k hk
   ·obtain ⟨x,hx⟩ := Option.ne_none_iff_exists'.1 hk
    exact (hm k x hx).2.1
 refine (h.does G1 w vs hi1 (fun b x hb => by cases hb) (hx G w vs hm hr)).mono fun e w' ⟨v,r,m',G',he,hx',hi',hm',hr',hK'⟩ => ?_
 let G3 : Gh := { G' with com := fun b => if m b = none then G'.com b else 0,lock := G.lock }
 have hx3 : Ext G w G3 w' := by
  refine ⟨hx'.z,rfl,hx'.size,fun b => ?_,fun b i hib => ?_,fun b hb => ?_⟩
  ·show G.com b ≤ if m b = none then G'.com b else 0
   split
   ·exact Nat.le_trans (hcom b) (hx'.com b)
   ·rename_i q
    obtain ⟨x,hx⟩ := Option.ne_none_iff_exists'.1 q
    rw [(hm b x hx).2.2.2.1]; exact Nat.le_refl _
  ·exact hx'.cell b i (Nat.lt_of_lt_of_le hib (hcom b))
  ·obtain ⟨q1,q2⟩ := hx'.held b (.inl hb)
   refine ⟨q1,?_⟩
   have hn : m b = none := by
    cases q : m b with
    | none => rfl
    | some x => exact absurd hb (hm b x q).2.2.1
   show (if m b = none then G'.com b else 0) = G.com b
   rw [if_pos hn,q2]
   show lentC G m b = _
   unfold lentC
   rw [hn]
 have hi3 : Inv G3 w' := ⟨hi'.below,fun b hb => by
  have hb : (if m b = none then G'.com b else 0) ≠ 0 := hb
  show isCells w' b (if m b = none then G'.com b else 0)
  split
  ·rename_i q
   rw [if_pos q] at hb
   exact hi'.com b hb
  ·rename_i q
   rw [if_neg q] at hb
   exact absurd rfl hb,fun k hk => Nat.lt_of_lt_of_le (hi.lock k hk) hx'.size⟩
 refine ⟨v,r,m,G3,he,hx3,hi3,fun k x hk => ?_,?_,hK',rfl⟩
 ·obtain ⟨b1,b2,b3,b4,b5⟩ := hm k x hk
  refine ⟨by rw [show G3.W0 = G.W0 from hx3.W0]; exact b1,Nat.lt_of_lt_of_le b2 hx'.size,b3,?_,b5.ext hx3 (hx'.held k (.inr (by rw [hk]; simp))).1⟩
  show (if m k = none then G'.com k else 0) = 0
  rw [if_neg (by rw [hk]; simp)]
 ·rcases hK r hK' with ⟨b,rfl⟩ | ⟨k,n,rfl⟩
  ·cases hr'; exact .bool _
  ·cases hr'; exact .int _ _
end Go.Proofs.YteppmjlfpniiaaaGreat.Abs
