/- Lemmas for the statements of this seat (X9): they hold without conditions beyond those that each one states. -/
import Derived.Test.YteppmjlfpniiaaaGreatX8
import Derived.Test.YteppmjlfpniiaaaGreatX6
/- The abstract machine,part 37: short statements whose order is open,walked in each of their orders; memory that is settled when a call ends. -/
namespace Go.Proofs.YteppmjlfpniiaaaGreat.Abs
set_option linter.unusedSimpArgs false
open Go Go.RowKit
inductive OT where
 | done
 | none
 | alt (i : Nat) (sub rest : OT)
def OT.deep : OT → Nat
 | .done => 0
 | .none => 0
 | .alt _ s r => max (s.deep + 1) r.deep
def chkT (ops : Array Oper) : Bool → OT → List Nat → Array Bool → Bool
 | true,.done,R,_ => R.isEmpty
 | false,.none,R,_ => R.isEmpty
 | _,.alt i s r,j :: R,L => i == j && (chkT ops true s (Region.ready .any ops (L.setIfInBounds i true)) (L.setIfInBounds i true) && chkT ops false r R L)
 | _,_,_,_ => false
def treeOk (ops : Array Oper) (t : OT) : Bool := ops.toList.all (fun o => o.guard.isNone) && (decide (t.deep ≤ ops.size) && chkT ops true t (Region.ready .any ops (Array.replicate ops.size false)) (Array.replicate ops.size false))
def vcT (E : Env) (ops : List Oper) (K : St → Prop) : OT → St → Prop
 | .done,st => K st
 | .none,_ => True
 | .alt i s r,st => (match ops[i]? with
  | some o => vcOp E o (vcT E ops K s) st
  | Option.none => vcT E ops K s st) ∧ vcT E ops K r st
section
variable {E : Env} {n : Nat}
theorem vcT_sound (hE : EnvOk E) {r : Option Nat} {ops : Array Oper} (hd : ops.toList.all (dstOk n) = true) (hg : ops.toList.all (fun o => o.guard.isNone) = true) {K : St → Prop} {Q : Exit → Act → World → Prop} {G0 : Gh} {w0 : World}
  (hQ : ∀ a w G st,Ext G0 w0 G w → Inv G w → FRel G w a st → a.tmps.size = n → K st → Q .normal a w) : ∀ (t : OT) (b : Bool) (R : List Nat) (L : Array Bool) (fuel : Nat) (st : St) (G : Gh) (w : World) (a : Act),Ext G0 w0 G w → Inv G w → FRel G w a st → a.tmps.size = n →
  chkT ops b t R L = true → t.deep ≤ fuel → vcT E ops.toList K t st → (b = true ∧ R = [] ∧ K st) ∨ (R = [] ∧ b = false) ∨ (0 < fuel ∧ (b = true → R ≠ []) ∧ ∀ i ∈ R,wpOpIn (fen r) 0 E.P ops Q i (wpAnyIn (fen r) 0 E.P .any ops Q (fuel - 1) (L.setIfInBounds i true)) a w)
 | .done,b,R,L,fuel,st,G,w,a,hx,hi,hf,hs,hc,hdp,h => by
  cases b with
  | true => exact .inl ⟨rfl,by simpa [chkT] using hc,h⟩
  | false => simp [chkT] at hc
 | .none,b,R,L,fuel,st,G,w,a,hx,hi,hf,hs,hc,hdp,h => by
  cases b with
  | true => simp [chkT] at hc
  | false => exact .inr (.inl ⟨by simpa [chkT] using hc,rfl⟩)
 | .alt i s t,b,R,L,fuel,st,G,w,a,hx,hi,hf,hs,hc,hdp,h => by
  cases R with
  | nil => cases b <;> simp [chkT] at hc
  | cons j R =>
   have hc2 : (i == j && (chkT ops true s (Region.ready .any ops (L.setIfInBounds i true)) (L.setIfInBounds i true) && chkT ops false t R L)) = true := by cases b <;> exact hc
   rw [Bool.and_eq_true,Bool.and_eq_true,beq_iff_eq] at hc2
   obtain ⟨rfl,hc1,hc2⟩ := hc2
   have hdp2 : s.deep + 1 ≤ fuel ∧ t.deep ≤ fuel := by
    have : max (s.deep + 1) t.deep ≤ fuel := hdp
    omega
   obtain ⟨h1,h2⟩ := h
   refine .inr (.inr ⟨by omega,fun _ => by simp,fun k hk => ?_⟩)
   rcases List.mem_cons.1 hk with rfl | hk
   ·unfold wpOpIn
    have sub : ∀ (st' : St) (G' : Gh) (w' : World) (a' : Act),Ext G0 w0 G' w' → Inv G' w' → FRel G' w' a' st' → a'.tmps.size = n → vcT E ops.toList K s st' → wpAnyIn (fen r) 0 E.P .any ops Q (fuel - 1) (L.setIfInBounds k true) a' w' := by
     intro st' G' w' a' hx' hi' hf' hs' hv
     have ih := vcT_sound hE (r := r) hd hg hQ s true _ (L.setIfInBounds k true) (fuel - 1) st' G' w' a' hx' hi' hf' hs' hc1 (by omega) hv
     rcases ih with ⟨_,e,hk⟩ | ⟨_,e⟩ | ⟨e0,e1,e2⟩
     ·cases hfu : fuel - 1 with
      | zero => exact ⟨e,hQ _ _ _ _ hx' hi' hf' hs' hk⟩
      | succ m => exact ⟨fun _ => hQ _ _ _ _ hx' hi' hf' hs' hk,fun i hir => by rw [e] at hir; cases hir⟩
     ·cases e
     ·obtain ⟨m,hm⟩ : ∃ m,fuel - 1 = m + 1 := ⟨fuel - 1 - 1,by omega⟩
      rw [hm] at e2 ⊢
      exact ⟨fun e => absurd e (e1 rfl),e2⟩
    split
    ·rename_i hn
     have hv : vcT E ops.toList K s st := by
      rw [Array.getElem?_toList,hn] at h1
      exact h1
     exact sub st G w a hx hi hf hs hv
    ·rename_i o ho
     have hdo : dstOk n o = true := List.all_eq_true.1 hd o (by have := Array.mem_of_getElem? ho; simpa using this)
     have hgo : o.guard = Option.none := by
      have := List.all_eq_true.1 hg o (by have := Array.mem_of_getElem? ho; simpa using this)
      simpa using this
     rw [Array.getElem?_toList,ho] at h1
     rw [if_pos (by simp [Region.wanted,hgo])]
     exact vcOp_sound hE h1 hdo hi hf hs fun a' w' G' st' hx' hi' hf' hs' hk => sub st' G' w' a' (hx.trans hx') hi' hf' hs' hk
   ·have ih := vcT_sound hE (r := r) hd hg hQ t false R L fuel st G w a hx hi hf hs hc2 (by omega) h2
    rcases ih with ⟨e,_⟩ | ⟨e,_⟩ | ⟨_,_,e2⟩
    ·cases e
    ·rw [e] at hk; cases hk
    ·exact e2 k hk
theorem adrawT0 (hE : EnvOk E) (hm : E.P.follows .mixedOrders = true) (t : OT) {ops : Array Oper} (hok : treeOk ops t = true) {K K' : St → Prop} {st : St}
  (hK : ∀ (G : Gh) (w : World) (a' : Act) (w' : World) (G' : Gh) (st' : St),Ext G w G' w' → Inv G' w' → FRel G' w' a' st' → a'.tmps.size = n → K' st' → Sat n G w (fun e st' => e = .normal ∧ K st') .normal a' w') (h : vcT E ops.toList K' t st) : ADraw E n ops K st .mk := by
 refine ⟨fun hd id r _ G w a hi hf hs => ?_⟩
 refine wpIn_region_any hm ?_
 unfold treeOk at hok
 rw [Bool.and_eq_true,Bool.and_eq_true,decide_eq_true_eq] at hok
 obtain ⟨hg,hdp,hc⟩ := hok
 have hx : Ext G w G { w with drawn := w.drawn + 1 } := ⟨rfl,rfl,Nat.le_refl _,fun _ => Nat.le_refl _,fun _ _ _ => rfl,fun _ _ => ⟨rfl,rfl⟩⟩
 have hQ := fun a' w' G' st' hx' hi' hf' hs' hk => hK G w a' w' G' st' hx' hi' hf' hs' hk
 have := vcT_sound hE (r := r) (Q := fun e a' w' => Sat n G w (fun e st' => e = .normal ∧ K st') e a' w') hd hg hQ t true _ (Array.replicate ops.size false) ops.size st G { w with drawn := w.drawn + 1 } a hx hi.drew hf.drew hs hc hdp h
 rcases this with ⟨_,e,hk⟩ | ⟨_,e⟩ | ⟨e0,e1,e2⟩
 ·cases hsz : ops.size with
  | zero => rw [hsz] at e; exact ⟨e,hQ _ _ _ _ hx hi.drew hf.drew hs hk⟩
  | succ m => rw [hsz] at e; exact ⟨fun _ => hQ _ _ _ _ hx hi.drew hf.drew hs hk,fun i hir => by rw [e] at hir; cases hir⟩
 ·cases e
 ·obtain ⟨m,hm⟩ : ∃ m,ops.size = m + 1 := ⟨ops.size - 1,by omega⟩
  rw [hm] at e1 e2 ⊢
  exact ⟨fun e => absurd e (e1 rfl),e2⟩
theorem adrawT (hE : EnvOk E) (hm : E.P.follows .mixedOrders = true) (t : OT) {ops : Array Oper} (hok : treeOk ops t = true) {K : St → Prop} {st : St} {α : Type} (I : α → Head) (J : α → Prop) (hokI : ∀ x,(I x).ok = true)
  (h : vcT E ops.toList (fun st' => ∃ x,J x ∧ Fits st' (I x)) t st) (hk : ∀ x,J x → K (I x).st) : ADraw E n ops K st .mk :=
 adrawT0 hE hm t hok (fun _ _ _ _ G' _ hx hi hf hs ⟨x,hj,hfit⟩ => ⟨G',(I x).st,hx.toL,hi,hf.weaken hfit (hokI x),hs,rfl,hk x hj⟩) h
end
/-! ### Memory that is settled when a call ends -/
def frozenC (G : Gh) (m m' : Mem) (b : Nat) : Nat := match m' b,m b with
 | none,some (.cells l) => l.length
 | _,_ => G.com b
theorem ACall.settle {P : Program} {f : FuncId} {xs : List AV} {m : Mem} {K : AV → Mem → Prop}
  (h : ACall P f xs m fun r m1 => ∃ r' m2,(∀ b x,m2 b = some x → m1 b = some x) ∧ K r' m2 ∧ ∀ (G : Gh) (w : World) (v : Value),MemRep G w m1 → Rep G.com w r v → Rep (frozenC G m1 m2) w r' v) : ACall P f xs m K := by
 refine ⟨h.enters,fun G w vs hi hm hr => (h.does G w vs hi hm hr).mono fun e w' ⟨v,r,m1,G',he,hx,hi',hm',hr',r',m2,hsub,hK,hrep⟩ => ?_⟩
 let G2 : Gh := { G' with com := frozenC G' m1 m2 }
 have hle : ∀ b,G'.com b ≤ frozenC G' m1 m2 b := fun b => by
  unfold frozenC
  split
  ·rename_i l hb
   rw [(hm' b _ hb).2.2.2.1]; exact Nat.zero_le _
  ·exact Nat.le_refl _
 have hkeep : ∀ b,(m1 b = none ∨ ∃ x,m2 b = some x) → frozenC G' m1 m2 b = G'.com b := fun b hb => by
  unfold frozenC
  split
  ·rename_i l h1 h2
   rcases hb with hb | ⟨x,hb⟩
   ·rw [hb] at h2; cases h2
   ·rw [hb] at h1; cases h1
  ·rfl
 have hx2 : Ext G' w' G2 w' := ⟨rfl,rfl,Nat.le_refl _,hle,fun _ _ _ => rfl,fun b hb => ⟨rfl,by
  refine hkeep b (.inl ?_)
  cases q : m1 b with
  | none => rfl
  | some x => exact absurd hb (hm' b x q).2.2.1⟩⟩
 have hi2 : Inv G2 w' := ⟨hi'.below,fun b hb => by
  show isCells w' b (frozenC G' m1 m2 b)
  have hb : frozenC G' m1 m2 b ≠ 0 := hb
  unfold frozenC at hb ⊢
  split
  ·rename_i l h1 h2
   obtain ⟨_,_,_,_,cs,e,c1,c2⟩ := hm' b _ h2
   exact ⟨_,_,_,c1,by rw [List.size_toArray,c2.1]; exact Nat.le_refl _⟩
  ·rename_i q
   refine hi'.com b ?_
   split at hb
   ·exact absurd ‹m1 b = _› (q _ ‹m2 b = _›)
   ·exact hb,hi'.lock⟩
 refine ⟨v,r',m2,G2,he,hx.trans hx2,hi2,fun b x hb => ?_,hrep G' w' v hm' hr',hK⟩
 obtain ⟨b1,b2,b3,b4,b5⟩ := hm' b x (hsub b x hb)
 exact ⟨b1,b2,b3,by show frozenC G' m1 m2 b = 0; rw [hkeep b (.inr ⟨x,hb⟩)]; exact b4,b5.ext hx2 rfl⟩
end Go.Proofs.YteppmjlfpniiaaaGreat.Abs
