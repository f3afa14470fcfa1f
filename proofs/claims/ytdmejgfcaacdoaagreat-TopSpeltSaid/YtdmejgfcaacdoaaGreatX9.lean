/- Lemmas for the statements of this seat (X9): they hold without conditions beyond those that each one states. -/
import Derived.Test.YtdmejgfcaacdoaaGreatX8
import Derived.Test.YtdmejgfcaacdoaaGreatX5
/- The abstract machine,part 27: long statements whose order is open and in which nothing is written: a quick check. -/
namespace Go.Proofs.YtdmejgfcaacdoaaGreat.Abs
set_option linter.unusedSimpArgs false
open Go Go.RowKit
structure QRec where
  dst : Option Nat
  looks : List Nat
  after : List Nat
def qrec (dsts : List (Option Nat)) (o : Oper) : QRec where
  dst := o.dst
  looks := (o.op.operands.toList.filterMap fun | .tmp t => some t | _ => none) ++ (match o.guard with
    | some (g,_) => ((dsts[g]?).bind id).toList
    | none => [])
  after := (o.after.toList.filter (Region.binds .any)).map (·.on)
def apartQ (x y : QRec) : Bool :=
  (match x.dst with
   | some d => !y.looks.contains d && y.dst != some d
   | none => true) &&
  (match y.dst with
   | some d => !x.looks.contains d
   | none => true)
def pairQ (i : Nat) (x y : QRec) : Bool := y.after.contains i || apartQ x y
def qGo : List QRec → Nat → List (Nat × QRec) → Bool
  | [],_,_ => true
  | x :: r,k,prev => x.after.all (fun j => Nat.blt j k) && prev.all (fun p => pairQ p.1 p.2 x) && qGo r (k + 1) ((k,x) :: prev)
def quiet (o : Oper) : Bool := !isWriter o.op && !isNewer o.op
def qOk (ops : Array Oper) : Bool := ops.toList.all quiet && qGo (ops.toList.map (qrec (ops.toList.map (·.dst)))) 0 []
theorem qGo_spec : ∀ (r : List QRec) (k : Nat) (prev : List (Nat × QRec)),qGo r k prev = true → ∀ j y,r[j]? = some y →
    (∀ p ∈ prev,pairQ p.1 p.2 y = true) ∧ (∀ i x,i < j → r[i]? = some x → pairQ (k + i) x y = true) ∧ ∀ t ∈ y.after,t < k + j
  | [],_,_,_,j,y,h => by simp at h
  | x :: r,k,prev,h,j,y,hy => by
    unfold qGo at h
    simp only [Bool.and_eq_true,List.all_eq_true] at h
    obtain ⟨⟨h1,h2⟩,h3⟩ := h
    cases j with
    | zero =>
      simp at hy
      subst hy
      refine ⟨fun p hp => h2 p hp,fun i x hi => absurd hi (Nat.not_lt_zero _),fun t ht => ?_⟩
      have := h1 t ht
      rw [Nat.blt_eq] at this
      omega
    | succ j =>
      have ih := qGo_spec r (k + 1) ((k,x) :: prev) h3 j y (by simpa using hy)
      obtain ⟨i1,i2,i3⟩ := ih
      refine ⟨fun p hp => i1 p (by simp [hp]),fun i z hi hz => ?_,fun t ht => by have := i3 t ht; omega⟩
      cases i with
      | zero =>
        simp at hz
        subst hz
        exact i1 (k,x) (by simp)
      | succ i =>
        have := i2 i z (by omega) (by simpa using hz)
        rw [show k + (i + 1) = k + 1 + i by omega]; exact this
theorem apartQ_is {ops : Array Oper} {x y : Oper} : apartQ (qrec (ops.toList.map (·.dst)) x) (qrec (ops.toList.map (·.dst)) y) = x.apart ops y := by
  have hl : ∀ o : Oper,(qrec (ops.toList.map (·.dst)) o).looks = o.looksAt ops := fun o => by
    unfold qrec Oper.looksAt
    simp only
    congr 1
    cases o.guard with
    | none => rfl
    | some g =>
      obtain ⟨g,b⟩ := g
      simp only
      rw [List.getElem?_map,Array.getElem?_toList]
      cases ops[g]? <;> rfl
  unfold apartQ Oper.apart
  rw [hl,hl]
  rfl
section
variable {E : Env}
theorem dAny_quiet {hs : Nat → Bool} {ops : Array Oper} {Q : St → Prop} (hq : qOk ops = true) : ∀ (l : List Oper) (k : Nat) (listed : Array Bool) (st : St),(∀ j,l[j]? = ops[k + j]?) → listed.size = ops.size → (∀ i,i < ops.size → listed.getD i true = decide (i < k)) →
    dLex E (fun _ => false) hs (fun _ => 0) ops Q k l st → dAny E (fun _ => false) hs (fun _ => 0) ops Q l.length listed st
  | [],k,listed,st,hl,hsz,hL,h => by
    refine ⟨?_,h⟩
    have hk : ops.size ≤ k := by
      have := hl 0
      simp at this
      omega
    apply List.eq_nil_iff_forall_not_mem.2
    intro j hj
    obtain ⟨h1,o,h2,_⟩ := mem_ready.1 hj
    have hjs : j < ops.size := (Array.getElem?_eq_some_iff.1 h2).1
    rw [hL j hjs] at h1
    have := of_decide_eq_false h1
    omega
  | o :: l,k,listed,st,hl,hsz,hL,h => by
    have h0 : ops[k]? = some o := by simpa using (hl 0).symm
    have hks : k < ops.size := (Array.getElem?_eq_some_iff.1 h0).1
    have hl' : ∀ j,l[j]? = ops[k + 1 + j]? := fun j => by have := hl (j + 1); simpa [Nat.add_assoc,Nat.add_comm 1 j] using this
    unfold qOk at hq
    rw [Bool.and_eq_true,List.all_eq_true] at hq
    obtain ⟨q1,q2⟩ := hq
    have spec := fun (j : Nat) (oj : Oper) (hj : ops[j]? = some oj) => qGo_spec _ _ _ q2 j (qrec (ops.toList.map (·.dst)) oj) (by rw [List.getElem?_map,Array.getElem?_toList,hj]; rfl)
    have edge : ∀ (j : Nat) (oj : Oper),ops[j]? = some oj → ∀ e ∈ oj.after,Region.binds .any e = true → e.on < j := fun j oj hj e he hb => by
      have := (spec j oj hj).2.2 e.on (by
        unfold qrec
        simp only [List.mem_map,List.mem_filter]
        exact ⟨e,⟨by simpa using he,hb⟩,rfl⟩)
      omega
    have qt : ∀ (j : Nat) (oj : Oper),ops[j]? = some oj → loud 0 oj = false := fun j oj hj => by
      have := q1 oj (by simpa using Array.mem_of_getElem? hj)
      unfold quiet at this
      unfold loud
      simp only [Bool.and_eq_true,Bool.not_eq_true'] at this
      rw [this.1,this.2]; rfl
    have hr' : k ∈ Region.ready .any ops listed := by
      refine mem_ready.2 ⟨by rw [hL k hks]; simp,o,h0,fun e he hb => ?_⟩
      have h1 := edge k o h0 e he hb
      have h2 := hL e.on (by omega)
      rw [decide_eq_true h1] at h2
      rw [Array.getD_eq_getD_getElem?] at h2 ⊢
      rw [Array.getElem?_eq_getElem (show e.on < listed.size by omega)] at h2 ⊢
      exact h2
    have hcl : ClosedL ops listed := by
      intro i oi hoi hli e he hb
      have h1 := edge i oi hoi e he hb
      have his : i < ops.size := (Array.getElem?_eq_some_iff.1 hoi).1
      have h3 := hL i his
      have hgi : listed.getD i true = listed.getD i false := by
        rw [Array.getD_eq_getD_getElem?,Array.getD_eq_getD_getElem?,Array.getElem?_eq_getElem (show i < listed.size by omega)]; rfl
      rw [hgi,hli] at h3
      have h3 := of_decide_eq_true h3.symm
      have h2 := hL e.on (by omega)
      rw [decide_eq_true (show e.on < k by omega)] at h2
      rw [Array.getD_eq_getD_getElem?] at h2 ⊢
      rw [Array.getElem?_eq_getElem (show e.on < listed.size by omega)] at h2 ⊢
      exact h2
    rcases h with ⟨tk,e,h1,h2⟩ | ⟨h,_⟩ | ⟨h,_⟩
    · refine dAny_first h0 l.length listed st hcl (fun j oj hj hne hun hno => ?_) hr' h1 ?_
      · have hjs : j < ops.size := (Array.getElem?_eq_some_iff.1 hj).1
        rw [hL j hjs] at hun
        have hkj : k < j := by have := of_decide_eq_false hun; omega
        have hp := (spec j oj hj).2.1 k (qrec (ops.toList.map (·.dst)) o) hkj (by rw [List.getElem?_map,Array.getElem?_toList,h0]; rfl)
        rw [Nat.zero_add] at hp
        unfold pairQ at hp
        rw [Bool.or_eq_true] at hp
        rcases hp with hp | hp
        · exfalso
          have hm : k ∈ (qrec (ops.toList.map (·.dst)) oj).after := by simpa using hp
          unfold qrec at hm
          simp only [List.mem_map,List.mem_filter] at hm
          obtain ⟨e,⟨he,hb⟩,hon⟩ := hm
          have : behind ops 5 j k = true := by
            unfold behind
            rw [hj]
            exact Array.any_eq_true'.2 ⟨e,by simpa using he,by rw [hb,hon]; simp⟩
          rw [this] at hno; cases hno
        · rw [apartQ_is] at hp
          refine ⟨hp,fun e => (by rw [qt j oj hj] at e; cases e),fun e => (by rw [qt k o h0] at e; cases e),?_,?_,fun t ht => (by cases ht)⟩
          · refine ⟨fun q => ?_,fun q => by omega⟩
            exfalso
            have := loud_of (k := 0) (o := oj) (by rcases q with q | q | q; exact .inl q; exact absurd q (by decide); exact absurd q (by decide))
            rw [qt j oj hj] at this; cases this
          · refine ⟨fun q => ?_,fun q => by omega⟩
            exfalso
            have := loud_of (k := 0) (o := o) (by rcases q with q | q | q; exact .inl q; exact absurd q (by decide); exact absurd q (by decide))
            rw [qt k o h0] at this; cases this
      · refine dAny_quiet (by unfold qOk; rw [Bool.and_eq_true,List.all_eq_true]; exact ⟨q1,q2⟩) l (k + 1) _ _ hl' (by simpa using hsz) (fun i hi => ?_) h2
        by_cases e : k = i
        · subst e
          rw [Array.getD_eq_getD_getElem?,Array.getElem?_setIfInBounds_self_of_lt (by omega)]
          simp
        · rw [getD_set_ne true e,hL i hi,decide_eq_decide]
          omega
    · exact absurd h (by simp)
    · exact absurd h (by simp)
theorem linOf_none : ∀ (n : Nat) (l : List Oper) (t : Nat),linOf (List.replicate n ⟨false,false,0⟩) l t = false
  | 0,l,t => by cases l <;> rfl
  | n + 1,[],t => by rw [List.replicate_succ]; rfl
  | n + 1,o :: l,t => by rw [List.replicate_succ]; unfold linOf; rw [linOf_none n l t]; rfl
theorem repl_getD (n i : Nat) : (List.replicate n (⟨false,false,0⟩ : Fl)).getD i ⟨false,false,0⟩ = ⟨false,false,0⟩ := by
  rw [List.getD_eq_getElem?_getD,List.getElem?_replicate]
  split <;> rfl
theorem adrawQ (hE : EnvOk E) (hm : E.P.follows .mixedOrders = true) {ops : Array Oper} (hok : qOk ops = true) {n : Nat} {K : St → Prop} {st : St} (m : Nat)
    (h : vcOpsD E ops (List.replicate m ⟨false,false,0⟩) ops.toList K st) : ADraw E n ops K st .mk := by
  refine ⟨fun hd id r _ G w a hi hf hs => ?_⟩
  refine wpIn_region_any hm ?_
  have hl := vcOpsD_sound (fl0 := List.replicate m ⟨false,false,0⟩) (lin := fun _ => false) (K := K) ops.toList (List.replicate m ⟨false,false,0⟩) 0 st (by simp) (fun t ht => by rw [linOf_none] at ht; cases ht) h
  have e1 : hsOf (List.replicate m ⟨false,false,0⟩) = fun _ => false := by funext i; unfold hsOf; rw [repl_getD]
  have e2 : ksOf (List.replicate m ⟨false,false,0⟩) = fun _ => 0 := by funext i; unfold ksOf; rw [repl_getD]
  rw [e1,e2] at hl
  have ha := dAny_quiet (E := E) hok ops.toList 0 (Array.replicate ops.size false) st (by simp) (by simp) (fun i hi => by
    rw [Array.getD_eq_getD_getElem?,Array.getElem?_replicate,if_pos hi]; simp) hl
  have hx : Ext G w G { w with drawn := w.drawn + 1 } := ⟨rfl,rfl,Nat.le_refl _,fun _ => Nat.le_refl _,fun _ _ _ => rfl,fun _ _ => ⟨rfl,rfl⟩⟩
  have := wpAny_of_dAny hE (r := r) (Q := fun e a' w' => Sat n G w (fun e st' => e = .normal ∧ K st') e a' w') hd (fun a' w' G' st' hx' hi' hf' hs' hk => ⟨G',st',hx'.toL,hi',hf',hs',rfl,hk⟩) ops.toList.length _ _ G _ a hx
    ?_ ?_ hs ha
  · simpa using this
  · exact hi.drew
  · exact hf.drew
end
end Go.Proofs.YtdmejgfcaacdoaaGreat.Abs
/- The abstract machine,part 28: differences that wrap around. -/
namespace Go.Proofs.YtdmejgfcaacdoaaGreat.Abs
set_option linter.unusedSimpArgs false
open Go Go.RowKit
section
variable {E : Env} {G : Gh} {w : World} {a : Act} {st : St} {n : Nat}
end
end Go.Proofs.YtdmejgfcaacdoaaGreat.Abs
/- The abstract machine,part 29: variables of one's own that never change from a loop on. -/
namespace Go.Proofs.YtdmejgfcaacdoaaGreat.Abs
set_option linter.unusedSimpArgs false
open Go Go.RowKit
section
variable {E : Env} {st : St} {n : Nat}
theorem ALoop.freeze (i : Nat) {body : Code} {K : Exit → St → Prop} (h : ALoop E n body K (st.freeze i) .mk) : ALoop E n body K st .mk := by
 refine ⟨fun hc r hr G w a hi ⟨β,R,hf⟩ hs => ?_⟩
 obtain ⟨G',R',x,i',f'⟩ := freeze_sound hi hf i
 refine wpIn_mono (h.does hc r hr G' w a i' ⟨β,R',f'⟩ hs) fun e a' w' q => ?_
 obtain ⟨G2,st2,x2,q⟩ := q
 exact ⟨G2,st2,x.toL.trans x2,q⟩
end
end Go.Proofs.YtdmejgfcaacdoaaGreat.Abs
/- The abstract machine,part 33: a call leaves alone a block that it is not told of. -/
namespace Go.Proofs.YtdmejgfcaacdoaaGreat.Abs
set_option linter.unusedSimpArgs false
open Go Go.RowKit
theorem ACall.frame {P : Program} {f : FuncId} {xs : List AV} {m : Mem} {K : AV → Mem → Prop} {b : Nat} {y : Box} (hb : m b = none) (h : ACall P f xs m K) :
  ACall P f xs (upd m b (some y)) fun r m'' => ∃ m',K r m' ∧ m' b = none ∧ m'' = upd m' b (some y) := by
 refine ⟨h.enters,fun G w vs hi hm hr => ?_⟩
 obtain ⟨b1,b2,b3,b4,b5⟩ := hm b y (upd_same _ _ _)
 let G2 : Gh := { G with lock := fun k => G.lock k ∨ k = b }
 have hi2 : Inv G2 w := ⟨hi.below,hi.com,fun k hk => by
  rcases hk with hk | rfl
  ·exact hi.lock k hk
  ·exact b2⟩
 have hm2 : MemRep G2 w m := fun k x hk => by
  have hne : k ≠ b := fun e => by rw [e,hb] at hk; cases hk
  obtain ⟨c1,c2,c3,c4,c5⟩ := hm k x (by rw [upd_ne _ _ hne]; exact hk)
  exact ⟨c1,c2,fun q => q.elim c3 hne,c4,c5⟩
 refine (h.does G2 w vs hi2 hm2 hr).mono fun e w' ⟨v,r,m',G',he,hx,hi',hm',hr',hK⟩ => ?_
 have hlk : G'.lock = G2.lock := hx.lock
 have hnone : m' b = none := by
  cases q : m' b with
  | none => rfl
  | some x =>
   have := (hm' b x q).2.2.1
   rw [hlk] at this
   exact absurd (.inr rfl) this
 obtain ⟨hh,hc⟩ := hx.held b (.inr rfl)
 let G3 : Gh := { G' with lock := G.lock }
 have hx3 : Ext G w G3 w' := ⟨hx.z,rfl,hx.size,hx.com,hx.cell,fun k hk => hx.held k (.inl hk)⟩
 have hi3 : Inv G3 w' := ⟨hi'.below,hi'.com,fun k hk => Nat.lt_of_lt_of_le (hi.lock k hk) hx.size⟩
 refine ⟨v,r,upd m' b (some y),G3,he,hx3,hi3,fun k x hk => ?_,hr',m',hK,hnone,rfl⟩
 by_cases q : k = b
 ·subst q
  rw [upd_same] at hk
  injection hk with hk
  subst hk
  refine ⟨?_,Nat.lt_of_lt_of_le b2 hx.size,b3,?_,b5.ext hx3 hh⟩
  ·have : G3.W0 = G.W0 := hx3.W0
   rw [this]; exact b1
  ·show G'.com k = 0
   rw [hc]; exact b4
 ·rw [upd_ne _ _ q] at hk
  obtain ⟨c1,c2,c3,c4,c5⟩ := hm' k x hk
  refine ⟨c1,c2,fun w => c3 (by rw [hlk]; exact .inl w),c4,c5⟩
end Go.Proofs.YtdmejgfcaacdoaaGreat.Abs
/- The abstract machine,part 32: copies from one block of shared memory to another one; a block is frozen ahead of a statement whose order is open. -/
namespace Go.Proofs.YtdmejgfcaacdoaaGreat.Abs
set_option linter.unusedSimpArgs false
open Go Go.RowKit
section
variable {E : Env} {G : Gh} {w : World} {a : Act} {st : St} {n : Nat}
theorem Reps.cut {com : Nat → Nat} {w : World} {l : List AV} {cs : List Value} (h : Reps com w l cs) (s n : Nat) : Reps com w ((l.drop s).take n) ((cs.drop s).take n) := by
 obtain ⟨h1,h2⟩ := h
 refine ⟨by simp [h1],fun i x v hx hv => ?_⟩
 have hi : i < n := by
  have := (List.getElem?_eq_some_iff.1 hx).1
  rw [List.length_take] at this
  omega
 rw [List.getElem?_take_of_lt hi,List.getElem?_drop] at hx hv
 exact h2 _ _ _ hx hv
theorem ADraw.melt {ops : Array Oper} {K : St → Prop} (b sz : Nat) (es tail : List AV) (hb : st.mem b = some (.cells ((es.map AV.cells).flatten ++ tail))) (hes : ∀ e ∈ es,e.cells.length = sz ∧ e.cells.all flat = true) (h : ADraw E n ops K (st.melt b sz es) .mk) : ADraw E n ops K st .mk := by
 refine ⟨fun hd id r hr G w a hi ⟨β,R,hf⟩ hs => ?_⟩
 obtain ⟨x,i',f'⟩ := hf.melt hi hb hes
 refine wpIn_mono (h.does hd id r hr _ w a i' ⟨β,R,f'⟩ hs) fun e a' w' q => ?_
 obtain ⟨G2,st2,x2,q⟩ := q
 exact ⟨G2,st2,x.toL.trans x2,q⟩
end
end Go.Proofs.YtdmejgfcaacdoaaGreat.Abs
