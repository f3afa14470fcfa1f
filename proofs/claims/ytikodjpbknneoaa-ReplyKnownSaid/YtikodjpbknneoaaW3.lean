/- Lemmas for the statements of this seat (W3): they hold without conditions beyond those that each one states. -/
import Derived.Test.YtikodjpbknneoaaW2
import Derived.Still
/- Statements whose order is open,part 1: what an operation asks hangs on what it looks at alone. -/
namespace Go.Proofs.Ytikodjpbknneoaa.Abs
set_option linter.unusedSimpArgs false
open Go Go.RowKit
section
variable {E : Env}
theorem vcLoad_congr {t : TypeId} {a : SV} {loc loc' : Nat → Option (List AV)} {mem : Mem} {K : AV → Prop} (h : ∀ k,a.refs k → loc k = loc' k) (hv : vcLoad E t a loc mem K) : vcLoad E t a loc' mem K := by
 unfold vcLoad at hv ⊢
 cases a with
 | loc i off => simp only at hv ⊢; rw [← h i rfl]; exact hv
 | lslice => exact hv
 | v x => cases x <;> exact hv
theorem vcStore_congr {t : TypeId} {a x : SV} {loc loc' : Nat → Option (List AV)} {mem : Mem} {K : Eff → Prop} (h : ∀ k,a.refs k → loc k = loc' k) (hv : vcStore E t a x loc mem K) : vcStore E t a x loc' mem K := by
 unfold vcStore at hv ⊢
 cases a with
 | loc i off =>
  cases x with
  | v x => simp only at hv ⊢; rw [← h i rfl]; exact hv
  | _ => exact hv
 | lslice => exact hv
 | v y => cases y <;> cases x <;> exact hv
theorem zip_congr {ρ ρ' : TypeId → Operand → SV} : ∀ {ts : List TypeId} {xs : List Operand},(∀ x ∈ xs,∀ ty,ρ ty x = ρ' ty x) → ((ts.zip xs).map fun p => ρ p.1 p.2) = (ts.zip xs).map fun p => ρ' p.1 p.2
 | [],_,_ => rfl
 | _ :: _,[],_ => rfl
 | t :: ts,x :: xs,h => by
  simp only [List.zip_cons_cons,List.map_cons]
  rw [h x (by simp) t,zip_congr fun y hy => h y (by simp [hy])]
theorem vcBuiltin_congr {b : Builtin} {ts : List TypeId} {xs xs0 : List SV} {os : List Bool} {loc loc' : Nat → Option (List AV)} {K : Eff → Prop} (h : ∀ k,(∃ x ∈ xs,x.refs k) → loc k = loc' k)
  (hv : vcBuiltin E b ts xs xs0 os loc K) : vcBuiltin E b ts xs xs0 os loc' K := by
 unfold vcBuiltin at hv ⊢
 cases b <;> simp only at hv ⊢ <;> try exact hv
 split at hv
 ·rename_i t _ d s _
  unfold vcCopy at hv ⊢
  split at hv
  ·rename_i i off len cap _ _ _
   rw [← h i ⟨.lslice i off len cap,by simp,rfl⟩]
   exact hv
  ·exact hv.elim
 ·exact hv.elim
theorem ev_congr {o : Oper} {ρ ρ' : TypeId → Operand → SV} {ow ow' : Operand → Bool} {loc loc' : Nat → Option (List AV)} {mem : Mem} {K : Eff → Prop}
  (hρ : ∀ x ∈ o.op.operands,∀ ty,ρ ty x = ρ' ty x) (hw : ∀ x ∈ o.op.operands,ow x = ow' x) (hl : ∀ k,(∃ x ∈ o.op.operands,∃ ty,(ρ ty x).refs k) ∨ o.dst = some k → loc k = loc' k)
  (h : ev E o ρ ow loc mem K) : ev E o ρ' ow' loc' mem K := by
 obtain ⟨dst,op,type,pos,after,guard⟩ := o
 unfold ev at h ⊢
 cases op <;> simp only [Op.operands] at hρ hw hl h ⊢
 case move x => rw [← hρ x (by simp),← hw x (by simp)]; exact h
 case assign x => rw [← hρ x (by simp),← hw x (by simp)]; exact h
 case pick c x y => rw [← hρ c (by simp),← hρ x (by simp),← hρ y (by simp)]; exact h
 case alloc t =>
  cases dst with
  | none => exact h
  | some d =>
   simp only at h ⊢
   split at h
   ·rename_i i h1 h2
    exact ⟨by rw [← hl d (.inr rfl)]; exact h.1,h.2⟩
   ·exact h
   ·exact h.elim
 case box t x =>
  rw [← hρ x (by simp)]
  split at h
  ·rename_i d y hx
   refine ⟨h.1,?_⟩
   have h2 := h.2
   split at h2
   ·exact h2
   ·exact ⟨by rw [← hl d (.inr rfl)]; exact h2.1,h2.2⟩
   ·exact h2
  ·exact h.elim
 case build t parts =>
  have e : ∀ f : Nat × Operand → TypeId,(parts.toList.map fun p => (p.1,ρ (f p) p.2)) = parts.toList.map fun p => (p.1,ρ' (f p) p.2) := fun f =>
   List.map_congr_left fun p hp => by rw [hρ p.2 (by simp; exact ⟨p.1,by simpa using hp⟩)]
  rw [← e]; exact h
 case buildSlice t len parts =>
  have e : ∀ f : Nat × Operand → TypeId,(parts.toList.map fun p => (p.1,ρ (f p) p.2)) = parts.toList.map fun p => (p.1,ρ' (f p) p.2) := fun f =>
   List.map_congr_left fun p hp => by rw [hρ p.2 (by simp; exact ⟨p.1,by simpa using hp⟩)]
  rw [← e]; exact h
 case load t x => rw [← hρ x (by simp)]; exact vcLoad_congr (fun k hk => hl k (.inl ⟨x,by simp,0,hk⟩)) h
 case store t p x => rw [← hρ p (by simp),← hρ x (by simp)]; exact vcStore_congr (fun k hk => hl k (.inl ⟨p,by simp,0,hk⟩)) h
 case nilCheck x => rw [← hρ x (by simp)]; exact h
 case binOp op t x y yt => rw [← hρ x (by simp),← hρ y (by simp)]; exact h
 case unOp op t x => rw [← hρ x (by simp)]; exact h
 case convert s d x => rw [← hρ x (by simp)]; exact h
 case makeFunc f first caps =>
  have e1 : first.toList.map (ρ 0) = first.toList.map (ρ' 0) := List.map_congr_left fun x hx => hρ x (by simp; exact .inl (by simpa using hx)) 0
  have e2 : caps.toList.map (ρ 0) = caps.toList.map (ρ' 0) := List.map_congr_left fun x hx => hρ x (by simp; exact .inr (by simpa using hx)) 0
  rw [← e1,← e2]; exact h
 case makeSlice t n c =>
  cases dst with
  | none => exact h
  | some d =>
   simp only at h ⊢
   rw [← hρ n (by simp),← hρ c (by simp)]
   split at h
   ·exact h
   ·exact ⟨by rw [← hl d (.inr rfl)]; exact h.1,h.2⟩
 case makeMap t r => exact h
 case lookup t x k ok => rw [← hρ x (by simp),← hρ k (by simp)]; exact h
 case mapUpdate t x k y => rw [← hρ x (by simp),← hρ k (by simp),← hρ y (by simp)]; exact h
 case range t x => rw [← hρ x (by simp)]; exact h
 case next x s => rw [← hρ x (by simp)]; exact h
 case slice t x lo hi mx =>
  rw [← hρ x (by simp)]
  have e : ∀ o : Option Operand,(∀ y,o = some y → ∀ ty,ρ ty y = ρ' ty y) → o.map (ρ 0) = o.map (ρ' 0) := fun o h => by
   cases o with
   | none => rfl
   | some y => simp [h y rfl]
  rw [← e lo (fun y hy => hρ y (by simp [hy])),← e hi (fun y hy => hρ y (by simp [hy])),← e mx (fun y hy => hρ y (by simp [hy]))]; exact h
 case fieldAddr s x f => rw [← hρ x (by simp)]; exact h
 case field s x f => rw [← hρ x (by simp)]; exact h
 case indexAddr t x i => rw [← hρ x (by simp),← hρ i (by simp)]; exact h
 case index t x i => rw [← hρ x (by simp),← hρ i (by simp)]; exact h
 case extract x i => rw [← hρ x (by simp)]; exact h
 case call c =>
  split at h
  ·rename_i b hb
   have hmem : ∀ x ∈ c.args.toList,x ∈ c.operands := fun x hx => by simp [Call.operands,hb]; simpa using hx
   refine ⟨h.1,?_⟩
   rw [← zip_congr (ρ := ρ) (ρ' := ρ') fun x hx ty => hρ x (hmem x hx) ty]
   have e1 : c.args.toList.map (ρ 0) = c.args.toList.map (ρ' 0) := List.map_congr_left fun x hx => hρ x (hmem x hx) 0
   have e2 : c.args.toList.map ow = c.args.toList.map ow' := List.map_congr_left fun x hx => hw x (hmem x hx)
   rw [← e1,← e2]
   refine vcBuiltin_congr (loc := loc) (fun k hk => ?_) h.2
   obtain ⟨x,hx,hr⟩ := hk
   obtain ⟨p,hp,rfl⟩ := List.mem_map.1 hx
   exact hl k (.inl ⟨p.2,hmem p.2 (List.of_mem_zip hp).2,p.1,hr⟩)
  ·exact h.elim
theorem ev_unhide {o : Oper} {ρ : TypeId → Operand → SV} {ow : Operand → Bool} {loc : Nat → Option (List AV)} {mem : Mem} {K : Eff → Prop}
  (hd : ∀ d,o.dst = some d → (∀ cells sl,K (.new cells sl) → loc d = none)) (h : ev E o ρ ow (fun _ => none) (fun _ => none) K) : ev E o ρ ow loc mem K := by
 obtain ⟨dst,op,type,pos,after,guard⟩ := o
 unfold ev at h ⊢
 cases op <;> simp only at h ⊢ <;> try exact h
 case alloc t =>
  cases dst with
  | none => exact h
  | some d =>
   simp only at h ⊢
   split at h
   ·exact ⟨hd d rfl _ _ h.2,h.2⟩
   ·exact fun b _ => h b rfl
   ·exact h.elim
 case box t x =>
  split at h
  ·rename_i d y hx
   refine ⟨h.1,?_⟩
   have h2 := h.2
   split at h2
   ·exact h2
   ·exact ⟨hd d rfl _ _ h2.2,h2.2⟩
   ·exact fun b _ => h2 b rfl
  ·exact h.elim
 case makeMap t r =>
  split at h
  ·exact fun b _ => h b rfl
  ·exact h.elim
 case lookup t x k ok =>
  unfold vcLookup at h ⊢
  split at h
  ·exact h.elim
  ·exact h.2.elim
  ·exact h.elim
 case mapUpdate t x k y =>
  unfold vcMapUpdate at h ⊢
  split at h
  ·exact h.elim
  ·exact h.2.elim
  ·exact h.elim
 case range t x =>
  unfold vcRange at h ⊢
  split at h
  ·exact fun b _ => h b rfl
  ·exact h.elim
 case next x s =>
  refine ⟨h.1,?_⟩
  have h2 := h.2
  unfold vcNext at h2 ⊢
  split at h2
  ·exact h2.elim
  ·exact h2.elim
 case call c =>
  split at h
  ·refine ⟨h.1,?_⟩
   have h2 := h.2
   unfold vcBuiltin at h2 ⊢
   split at h2 <;> try exact h2
   split at h2
   ·unfold vcCopy at h2 ⊢
    split at h2
    ·split at h2
     ·rename_i e; cases e
     ·exact h2.elim
    ·exact h2.elim
   ·exact h2.elim
  ·exact h.elim
 case load t x =>
  unfold vcLoad at h ⊢
  split at h <;> first | exact h | exact h.elim
 case store t p x =>
  unfold vcStore at h ⊢
  split at h <;> first | exact h | exact h.elim
 case makeSlice t n c =>
  cases dst with
  | none => exact h
  | some d =>
   simp only at h ⊢
   split at h
   ·unfold vcMakeSlice at h ⊢
    split at h
    ·split at h
     ·exact ⟨h.1,fun b _ => h.2 b rfl⟩
     ·exact h.elim
    ·exact h.elim
   ·refine ⟨?_,h.2⟩
    have h2 := h.2
    unfold vcMakeSlice at h2
    split at h2
    ·split at h2
     ·exact hd d rfl _ _ h2.2
     ·exact h2.elim
    ·exact h2.elim
def isLook : Op → Bool
 | .lookup .. | .load .. => true
 | _ => false
theorem ev_look {o : Oper} {ρ : TypeId → Operand → SV} {ow : Operand → Bool} {loc : Nat → Option (List AV)} {mem mem' : Mem} {K : Eff → Prop}
  (hl : isLook o.op = true) (hm : ∀ b x,mem b = some x → mem' b = some x) (h : ev E o ρ ow (fun _ => none) mem K) : ev E o ρ ow loc mem' K := by
 obtain ⟨dst,op,type,pos,after,guard⟩ := o
 unfold ev at h ⊢
 cases op <;> simp only [isLook,Bool.false_eq_true] at h hl ⊢
 case lookup t x k ok =>
  unfold vcLookup at h ⊢
  split at h
  ·split at h
   ·rename_i hb; rw [hm _ _ hb]; exact h
   ·exact h.elim
  ·refine ⟨h.1,?_⟩
   have h := h.2
   split at h
   ·rename_i hb; rw [hm _ _ hb]; exact h
   ·exact h.elim
  ·exact h.elim
 case load t x =>
  unfold vcLoad at h ⊢
  split at h
  ·exact h
  ·exact h.elim
  ·split at h
   ·rename_i hb; rw [hm _ _ hb]; exact h
   ·exact h.elim
  ·exact h.elim
end
end Go.Proofs.Ytikodjpbknneoaa.Abs
/- Statements whose order is open,part 2: what one operation does; two that do not look at each other can change places. -/
namespace Go.Proofs.Ytikodjpbknneoaa.Abs
set_option linter.unusedSimpArgs false
open Go Go.RowKit
def noneF {α : Type} : Nat → Option α := fun _ => none
def isWriter : Op → Bool
 | .store .. | .mapUpdate .. => true
 | _ => false
def isNewer : Op → Bool
 | .alloc _ | .box _ _ | .makeSlice _ _ _ => true
 | _ => false
def loud (c : Nat) (o : Oper) : Bool := isWriter o.op || isNewer o.op || (c == 1 || c == 2)
def Shape (o : Oper) (e : Eff) : Prop :=
 (isWriter o.op = true ∧ ((∃ i c,e = .set i c) ∨ ∃ b x,e = .mset b x)) ∨ (isWriter o.op = false ∧ isNewer o.op = true ∧ ∃ c sl,e = .new c sl) ∨ (isWriter o.op = false ∧ ∃ x b,e = .put x b)
def isCallV (o : Oper) : Bool := match o.op with
 | .call c => match c.callee with
  | .value _ => true
  | _ => false
 | _ => false
def maskM (x : SV) (m : Mem) : Mem := match x with
 | .v (.ptr b _) => upd m b none
 | _ => noneF
def hidM (o : Oper) (k : Nat) (st : St) : Mem := if isLook o.op = true then (if k = 3 then st.mem else if 4 ≤ k then maskM (st.vals (k - 4)) st.mem else noneF) else noneF
theorem hidM_le {o : Oper} {k : Nat} {st : St} : ∀ b x,hidM o k st b = some x → st.mem b = some x := by
 intro b x h
 unfold hidM at h
 split at h
 ·split at h
  ·exact h
  ·split at h
   ·generalize st.vals (k - 4) = y at h
    have key : ∀ c,upd st.mem c none b = some x → st.mem b = some x := fun c hc => by
     unfold upd at hc
     split at hc
     ·cases hc
     ·exact hc
    cases y with
    | v y => cases y <;> first | exact key _ h | cases h
    | _ => cases h
   ·cases h
 ·cases h
def storesAt (o : Oper) (s : Nat) : Bool := match o.op with
 | .store _ (.tmp t) _ => t == s
 | _ => false
def LCall (P : Program) (g : FuncId) (xs : List AV) (hide : Bool) (m : Mem) (r : AV) : Prop := PCall P g xs r ∨ (hide = false ∧ ACall P g xs m fun r' m' => r' = r ∧ m' = m)
theorem LCall.at {P : Program} {g : FuncId} {xs : List AV} {hide : Bool} {m : Mem} {r : AV} (h : LCall P g xs hide m r) : ACall P g xs m fun r' m' => r' = r ∧ m' = m := h.elim (fun h => h m) (·.2)
def DCond (E : Env) (lin : Nat → Bool) (hide : Bool) (k : Nat) (o : Oper) (st : St) (tk : Option Nat) (e : Eff) : Prop :=
 (ev E o (st.sv E.T) st.ow (if hide then noneF else st.loc) (if hide then (if k = 0 then noneF else hidM o k st) else st.mem) (fun e' => e' = e) ∧ Shape o e ∧ (match takes o with | some (.tmp t) => lin t = true ∧ tk = some t | _ => tk = none) ∧
  ∀ d,o.dst = some d → (∃ cells sl,e = .new cells sl) → st.loc d = none) ∨
 (∃ x,(o.op = .move x ∨ o.op = .assign x) ∧ tk = none ∧ e = .put (st.sv E.T o.type x) false) ∨
 (∃ c f g first caps ys r,o.op = .call c ∧ c.callee = .value f ∧ c.argTypes.toList.length = c.args.toList.length ∧ st.sv E.T 0 f = .v (.fn (.func g) first caps) ∧
  avs ((c.argTypes.toList.zip c.args.toList).map fun p => st.sv E.T p.1 p.2) = some ys ∧ LCall E.P g (first ++ ys ++ caps) hide st.mem r ∧ tk = none ∧ e = .put (.v r) false) ∨
 (k = 1 ∧ hide = false ∧ ∃ c f g first caps ys r m1,o.op = .call c ∧ c.callee = .value f ∧ c.argTypes.toList.length = c.args.toList.length ∧ st.sv E.T 0 f = .v (.fn (.func g) first caps) ∧
  avs ((c.argTypes.toList.zip c.args.toList).map fun p => st.sv E.T p.1 p.2) = some ys ∧ ACall E.P g (first ++ ys ++ caps) st.mem (fun r' m' => r' = r ∧ m' = m1) ∧ tk = none ∧ e = .call r m1)
def DGuard (ops : Array Oper) (o : Oper) (st : St) (b : Bool) : Prop :=
 match o.guard with
 | none => b = true
 | some (j,want) => match gslot ops j with
  | none => False
  | some d => match st.vals d with
   | .v (.bool c) => b = (c == want)
   | .v (.tuple []) => b = false
   | _ => False
def DAct (E : Env) (lin : Nat → Bool) (hide : Bool) (k : Nat) (ops : Array Oper) (o : Oper) (st : St) (tk : Option Nat) (e : Eff) : Prop :=
 (DGuard ops o st true ∧ DCond E lin hide k o st tk e) ∨ (DGuard ops o st false ∧ tk = none ∧ e = .put undefS false)
def valsU (d : Option Tmp) (e : Eff) (v : Nat → SV) : Nat → SV :=
 match d with
 | none => v
 | some d => match e with
  | .put x _ => upd v d x
  | .new _ sl => upd v d (match sl with | none => .loc d 0 | some n => .lslice d 0 n n)
  | .set _ _ => upd v d undefS
  | .mset _ _ => upd v d undefS
  | .call x _ => upd v d (.v x)
  | .mput x _ _ => upd v d (.v x)
  | .setp x _ _ => upd v d (.v x)
def ownU (d : Option Tmp) (tk : Option Nat) (e : Eff) (o : Nat → Bool) : Nat → Bool :=
 let o1 := match tk with | some t => upd o t false | none => o
 match d with
 | none => o1
 | some d => match e with
  | .put _ b => upd o1 d b
  | _ => upd o1 d false
def locU (d : Option Tmp) (e : Eff) (l : Nat → Option (List AV)) : Nat → Option (List AV) :=
 match e with
 | .new cells _ => match d with | some d => upd l d (some cells) | none => l
 | .set i cells => upd l i (some cells)
 | .setp _ i cells => upd l i (some cells)
 | _ => l
def memU (e : Eff) (m : Mem) : Mem := match e with
 | .mset b x => upd m b (some x)
 | .call _ m' => m'
 | .mput _ b x => upd m b (some x)
 | _ => m
def DTo (o : Oper) (tk : Option Nat) (e : Eff) (st : St) : St := ⟨valsU o.dst e st.vals,ownU o.dst tk e st.own,locU o.dst e st.loc,memU e st.mem⟩
theorem DTo_eff (o : Oper) (tk : Option Nat) (e : Eff) (st : St) : DTo o tk e st = (match tk with | some t => ({ st with own := upd st.own t false } : St) | none => st).eff o.dst e := by
 unfold DTo St.eff valsU ownU locU memU
 cases o.dst <;> cases e <;> cases tk <;> rfl
section
variable {E : Env} {G : Gh} {w : World} {a : Act} {st : St}
theorem dguard_wanted {β : Nat → Nat} {R : Nat → Role} (hfb : FRelB G w β R a st) {ops : Array Oper} {o : Oper} {b : Bool} (hg : DGuard ops o st b) : Region.wanted o (yielded ops a.tmps) = b := by
 unfold DGuard at hg
 split at hg
 ·rename_i hgu; simp [Region.wanted,hgu,hg]
 ·rename_i j want hgu
  split at hg
  ·exact hg.elim
  ·rename_i d hj
   have hv := hfb.vals d
   split at hg
   ·rename_i c hc
    rw [hc] at hv
    have hval := getD_some (rep_bool (srep_v hv)) (by simp [undef])
    have hy : yielded ops a.tmps j = some c := by
     unfold yielded
     rw [show (ops[j]?).bind (·.dst) = some d from hj]
     simp [hval]
    subst hg
    simp only [Region.wanted,hgu,hy]
    cases c <;> cases want <;> rfl
   ·rename_i hc
    rw [hc] at hv
    have hval := rep_nilundef (srep_v hv)
    have hy : yielded ops a.tmps j = none := by
     unfold yielded
     rw [show (ops[j]?).bind (·.dst) = some d from hj]
     by_cases hlt : d < a.tmps.size
     ·have : a.tmps[d]? = some undef := by
       rw [Array.getElem?_eq_getElem hlt]
       simp [Array.getD,hlt] at hval
       rw [hval]
      simp [this,undef]
     ·simp [Array.getElem?_eq_none (Nat.le_of_not_lt hlt)]
    subst hg
    simp [Region.wanted,hgu,hy]
   ·exact hg.elim
theorem dact_sound (hE : EnvOk E) {r : Option Nat} {lin : Nat → Bool} {hide : Bool} {k : Nat} {ops : Array Oper} {o : Oper} {tk : Option Nat} {e : Eff} (h : DAct E lin hide k ops o st tk e) (hi : Inv G w) (hf : FRel G w a st) {n : Nat} (hs : a.tmps.size = n)
  (hd : dstOk n o = true) {next : Act → World → Prop} {Q : Exit → Act → World → Prop} (hn : ∀ a' w' G',Ext G w G' w' → Inv G' w' → FRel G' w' a' (DTo o tk e st) → a'.tmps.size = n → next a' w') :
  if Region.wanted o (yielded ops a.tmps) then o.wpIn (fen r) 0 E.P a w next Q else (∀ f,o.about E.P w a.eval = some f → (fen r).fn f) ∧ next (a.put o.dst undef) w := by
 have hd' : ∀ t,o.dst = some t → t < a.tmps.size := fun t ht => by rw [hs]; simpa [dstOk,ht] using hd
 obtain ⟨β,R,hfb⟩ := hf
 have guard : ∀ b,DGuard ops o st b → Region.wanted o (yielded ops a.tmps) = b := fun b hg => dguard_wanted hfb hg
 rcases h with ⟨hg,h⟩ | ⟨hg,rfl,rfl⟩
 ·rw [guard true hg,if_pos rfl]
  have fin : (∀ c,o.op ≠ .defer c) → OpOk E.P o a w G (DTo o tk e st) → o.wpIn (fen r) 0 E.P a w next Q := by
   rintro hnd ⟨v,w',G',hr,hx,hi',hf'⟩
   have hnn := hn (a.put o.dst v) w' G' hx hi' hf' (by rw [put_size]; exact hs)
   refine oper_in hnd ?_
   rcases hr with hr | ⟨hr,rfl⟩ <;> rw [hr] <;> exact hnn
  rcases h with ⟨h,_,htk,hnew⟩ | ⟨x,hx,rfl,rfl⟩ | ⟨c,f,g,first,caps,ys,r',hop,hcf,hlen,hfe,hys,hp,rfl,rfl⟩ | ⟨_,_,c,f,g,first,caps,ys,r',m1,hop,hcf,hlen,hfe,hys,hp,rfl,rfl⟩
  ·have h' : ev E o (st.sv E.T) st.ow st.loc st.mem (fun e' => e' = e) := by
    cases hide with
    | false => exact h
    | true =>
     by_cases k3 : isLook o.op = true
     ·rw [if_pos rfl,if_pos rfl] at h
      refine ev_look k3 (mem := if k = 0 then noneF else hidM o k st) (fun b x hx => ?_) h
      split at hx
      ·cases hx
      ·exact hidM_le b x hx
     ·have e : (if true = true then (if k = 0 then noneF else hidM o k st) else st.mem) = noneF := by
       rw [if_pos rfl]
       unfold hidM
       rw [if_neg k3,ite_self]
      rw [e] at h
      exact ev_unhide (fun d hd cells sl he => hnew d hd ⟨cells,sl,he.symm⟩) h
   obtain ⟨e',he,hok⟩ := ev_sound hE h' hi hfb hd'
   subst he
   refine fin (ev_nodefer h') ?_
   rw [DTo_eff]
   cases ht : takes o with
   | none => rw [ht] at htk hok; simp only at htk; subst htk; exact hok
   | some x =>
    rw [ht] at htk hok
    cases x with
    | tmp t => simp only at htk; obtain ⟨_,rfl⟩ := htk; exact hok
    | _ => simp only at htk; subst htk; exact hok
  ·refine fin (fun c hc => by rcases hx with hx | hx <;> rw [hx] at hc <;> cases hc) ?_
   rw [DTo_eff]
   have hrun : (execOp a.eval o).run E.P w = .ok (.value (a.eval x)) w := by
    rcases hx with hx | hx <;> simp [execOp,hx]
   exact opOk_value hfb hi hd' (hfb.eval E.T o.type x) (hfb.refs E.T o.type x) hrun
  ·have hfv := hfb.eval E.T 0 f
   rw [hfe] at hfv
   obtain ⟨fs,cs,hval,hrf,hrc⟩ := rep_fn (srep_v hfv)
   have hra := zip_avs hfb c.argTypes.toList c.args.toList ys hlen hys
   have hcall := call_sound hi hfb hp.at ((hrf.append hra).append hrc)
   have hrun : (execOp a.eval o).run E.P w = .ok (.enter g (fs ++ c.args.toList.map a.eval ++ cs).toArray) w := by
    have e2 : (fs.toArray ++ c.args.map a.eval ++ cs.toArray) = (fs ++ c.args.toList.map a.eval ++ cs).toArray := by
     apply Array.ext'; simp
    unfold execOp
    simp only [hop,resolve,hcf,hval,Deferred.ofValue,Sem.run_bind,Sem.run_pure,Result.andThen_ok,invoke]
    rw [hp.at.1,e2]
   refine oper_in (fun c hc => by rw [hop] at hc; cases hc) ?_
   rw [hrun]
   refine ⟨fen_depth r,(calls_fen hcall).mono ?_⟩
   rintro e w' ⟨v,r',m',G',R',rfl,hx,hi',hf',hr,rfl,rfl⟩
   have hfp := hf'.put (d := o.dst) (x := .v r') hd' hr (fun i h => h.elim)
   refine hn _ _ G' hx hi' ⟨β,R',?_⟩ (by rw [put_size]; exact hs)
   rw [DTo_eff]; exact hfp
  ·have hfv := hfb.eval E.T 0 f
   rw [hfe] at hfv
   obtain ⟨fs,cs,hval,hrf,hrc⟩ := rep_fn (srep_v hfv)
   have hra := zip_avs hfb c.argTypes.toList c.args.toList ys hlen hys
   have hcall := call_sound hi hfb hp ((hrf.append hra).append hrc)
   have hrun : (execOp a.eval o).run E.P w = .ok (.enter g (fs ++ c.args.toList.map a.eval ++ cs).toArray) w := by
    have e2 : (fs.toArray ++ c.args.map a.eval ++ cs.toArray) = (fs ++ c.args.toList.map a.eval ++ cs).toArray := by
     apply Array.ext'; simp
    unfold execOp
    simp only [hop,resolve,hcf,hval,Deferred.ofValue,Sem.run_bind,Sem.run_pure,Result.andThen_ok,invoke]
    rw [hp.1,e2]
   refine oper_in (fun c hc => by rw [hop] at hc; cases hc) ?_
   rw [hrun]
   refine ⟨fen_depth r,(calls_fen hcall).mono ?_⟩
   rintro e w' ⟨v,r',m',G',R',rfl,hx,hi',hf',hr,rfl,rfl⟩
   have hfp := hf'.put (d := o.dst) (x := .v r') hd' hr (fun i h => h.elim)
   refine hn _ _ G' hx hi' ⟨β,R',?_⟩ (by rw [put_size]; exact hs)
   rw [DTo_eff]; exact hfp
 ·rw [guard false hg,if_neg (by simp)]
  refine ⟨fun _ _ => fen_fn r _,hn _ w G (Ext.refl _ _) hi ⟨β,R,?_⟩ (by rw [put_size]; exact hs)⟩
  rw [DTo_eff]
  exact hfb.put hd' (x := undefS) (v := undef) (rep_undef _ _) (fun i h => h.elim)
def vcCallS (E : Env) (f : SV) (xs : List SV) (mem : Mem) (S : Option Nat → Eff → Prop) : Prop :=
 match f,avs xs with
 | .v (.fn (.func g) first caps),some ys => ACall E.P g (first ++ ys ++ caps) mem fun r m' => S none (.call r m')
 | .v (.fn (.yield l) first _),some ys => AYield E.P l (first ++ ys) mem fun r m' => S none (.call r m')
 | _,_ => False
def DActS (E : Env) (lin : Nat → Bool) (hide : Bool) (k : Nat) (ops : Array Oper) (o : Oper) (st : St) (S : Option Nat → Eff → Prop) : Prop :=
 (∃ tk e,DAct E lin hide k ops o st tk e ∧ S tk e) ∨
 (k = 2 ∧ hide = false ∧ DGuard ops o st true ∧ ∃ c f,o.op = .call c ∧ c.callee = .value f ∧ c.argTypes.toList.length = c.args.toList.length ∧
  vcCallS E (st.sv E.T 0 f) ((c.argTypes.toList.zip c.args.toList).map fun p => st.sv E.T p.1 p.2) st.mem S) ∨
 (k = 2 ∧ hide = false ∧ DGuard ops o st true ∧ (∃ c,o.op = .call c) ∧ vcAppE E o st (S none))
theorem dacts_sound (hE : EnvOk E) {r : Option Nat} {lin : Nat → Bool} {hide : Bool} {k : Nat} {ops : Array Oper} {o : Oper} {S : Option Nat → Eff → Prop} (h : DActS E lin hide k ops o st S) (hi : Inv G w) (hf : FRel G w a st) {n : Nat} (hs : a.tmps.size = n)
  (hd : dstOk n o = true) {next : Act → World → Prop} {Q : Exit → Act → World → Prop} (hn : ∀ tk e,S tk e → ∀ a' w' G',Ext G w G' w' → Inv G' w' → FRel G' w' a' (DTo o tk e st) → a'.tmps.size = n → next a' w') :
  if Region.wanted o (yielded ops a.tmps) then o.wpIn (fen r) 0 E.P a w next Q else (∀ f,o.about E.P w a.eval = some f → (fen r).fn f) ∧ next (a.put o.dst undef) w := by
 rcases h with ⟨tk,e,h,hS⟩ | ⟨_,_,hg,c,f,hop,hcf,hlen,h⟩ | ⟨_,_,hg,_,h⟩
 ·exact dact_sound hE h hi hf hs hd (hn tk e hS)
 rotate_left 1
 ·have hwt : Region.wanted o (yielded ops a.tmps) = true := by
   obtain ⟨β,R,hfb⟩ := hf
   exact dguard_wanted hfb hg
  rw [hwt,if_pos rfl]
  exact vcAppG_sound (K := fun st' => ∃ e,S none e ∧ st' = st.eff o.dst e) hE (vcAppE_congr (fun _ _ _ => rfl) rfl h fun x m hx => ⟨_,hx,rfl⟩) hd hi hf hs (by
   rintro a' w' G' st' hx hi' hf' hs' ⟨e,he,rfl⟩
   exact hn none e he a' w' G' hx hi' (by rw [DTo_eff]; exact hf') hs')
 ·have hd' : ∀ t,o.dst = some t → t < a.tmps.size := fun t ht => by rw [hs]; simpa [dstOk,ht] using hd
  obtain ⟨β,R,hfb⟩ := hf
  rw [dguard_wanted hfb hg,if_pos rfl]
  have hnd : ∀ c,o.op ≠ .defer c := fun c hc => by rw [hop] at hc; cases hc
  unfold vcCallS at h
  split at h
  ·rename_i g first caps ys hfe hys
   have hfv := hfb.eval E.T 0 f
   rw [hfe] at hfv
   obtain ⟨fs,cs,hval,hrf,hrc⟩ := rep_fn (srep_v hfv)
   have hra := zip_avs hfb c.argTypes.toList c.args.toList ys hlen hys
   have hcall := call_sound hi hfb h ((hrf.append hra).append hrc)
   have hrun : (execOp a.eval o).run E.P w = .ok (.enter g (fs ++ c.args.toList.map a.eval ++ cs).toArray) w := by
    have e2 : (fs.toArray ++ c.args.map a.eval ++ cs.toArray) = (fs ++ c.args.toList.map a.eval ++ cs).toArray := by
     apply Array.ext'; simp
    unfold execOp
    simp only [hop,resolve,hcf,hval,Deferred.ofValue,Sem.run_bind,Sem.run_pure,Result.andThen_ok,invoke]
    rw [h.1,e2]
   refine oper_in hnd ?_
   rw [hrun]
   refine ⟨fen_depth r,(calls_fen hcall).mono ?_⟩
   rintro e w' ⟨v,r',m',G',R',rfl,hx,hi',hf',hr,hK⟩
   have hfp := hf'.put (d := o.dst) (x := .v r') hd' hr (fun i h => h.elim)
   refine hn _ _ hK _ _ G' hx hi' ⟨β,R',?_⟩ (by rw [put_size]; exact hs)
   rw [DTo_eff]; exact hfp
  ·rename_i l first caps ys hfe hys
   have hfv := hfb.eval E.T 0 f
   rw [hfe] at hfv
   obtain ⟨fs,cs,hval,hrf,hrc⟩ := rep_fn (srep_v hfv)
   have hra := zip_avs hfb c.argTypes.toList c.args.toList ys hlen hys
   obtain ⟨f',tmps,assign,body,hy,hround⟩ := yield_sound hi hfb h (hrf.append hra)
   have hrun : (execOp a.eval o).run E.P w = .ok (.round l f' tmps assign body) w := by
    have e2 : (fs.toArray ++ c.args.map a.eval) = (fs ++ c.args.toList.map a.eval).toArray := by
     apply Array.ext'; simp
    unfold execOp
    simp only [hop,resolve,hcf,hval,Deferred.ofValue,Sem.run_bind,Sem.run_pure,Result.andThen_ok,invoke]
    rw [e2,hy]
   refine oper_in hnd ?_
   rw [hrun]
   refine ⟨fen_depth r,(round_fen hround).mono ?_⟩
   rintro e w' ⟨v,r',m',G',R',rfl,hx,hi',hf',hr,hK⟩
   have hfp := hf'.put (d := o.dst) (x := .v r') hd' hr (fun i h => h.elim)
   refine hn _ _ hK _ _ G' hx hi' ⟨β,R',?_⟩ (by rw [put_size]; exact hs)
   rw [DTo_eff]; exact hfp
  ·exact h.elim
end
end Go.Proofs.Ytikodjpbknneoaa.Abs
/- Statements whose order is open,part 3: what an operation does is one thing; its kind. -/
namespace Go.Proofs.Ytikodjpbknneoaa.Abs
set_option linter.unusedSimpArgs false
open Go Go.RowKit
def vcLenD (x : SV) (K : AV → Prop) : Prop := match x with
 | .v (.slice _ l) => K (.int .i64 l.length)
 | .lslice _ _ len _ => K (.int .i64 len)
 | .v (.mslice _ _ len _) => K (.int .i64 len)
 | _ => False
def vcLenTD (E : Env) (t : TypeId) (x : SV) (K : AV → Prop) : Prop := match E.T t with
 | some ⟨.slice _,_,_,_⟩ => vcLenD x K
 | some ⟨.string,_,_,_⟩ => match x with
  | .v (.str s) => K (.int .i64 s.size)
  | _ => False
 | some ⟨.array n _,_,_,_⟩ => K (.int .i64 n)
 | _ => False
def vcBuiltinD (E : Env) (b : Builtin) (ts : List TypeId) (xs xs0 : List SV) (os : List Bool) (K : Eff → Prop) : Prop :=
 match b with
 | .len => match ts,xs with
  | t :: _,x :: _ => vcLenTD E t x fun r => K (.put (.v r) false)
  | _,_ => False
 | .copy => False
 | b => vcBuiltin E b ts xs xs0 os noneF K
def evD (E : Env) (o : Oper) (ρ : TypeId → Operand → SV) (ow : Operand → Bool) (loc : Nat → Option (List AV)) (mem : Mem) (K : Eff → Prop) : Prop :=
 match o.op with
 | .call c => match c.callee with
  | .builtin b => o.dst.isSome = true ∧ vcBuiltinD E b c.argTypes.toList ((c.argTypes.toList.zip c.args.toList).map fun p => ρ p.1 p.2) (c.args.toList.map (ρ 0)) (c.args.toList.map ow) K
  | _ => False
 | .alloc _ | .box _ _ | .makeSlice _ _ _ => (match o.dst with
   | some d => match E.H d with
    | .shared => False
    | _ => True
   | none => True) ∧ ev E o ρ ow loc mem K
 | .makeMap _ _ | .range _ _ | .next _ _ => False
 | _ => ev E o ρ ow loc mem K
section
variable {E : Env}
instance : Inhabited AV := ⟨.top⟩
instance : Inhabited SV := ⟨.v .top⟩
instance : Inhabited Eff := ⟨.put (.v .top) false⟩
def Det {α : Type} (Q : (α → Prop) → Prop) : Prop := ∃ (c : Prop) (r : α),∀ K,Q K ↔ (c ∧ K r)
theorem Det.leaf {α : Type} {c : Prop} {x : α} : Det fun K => c ∧ K x := ⟨c,x,fun _ => Iff.rfl⟩
theorem Det.one {α : Type} {x : α} : Det fun K => K x := ⟨True,x,fun _ => by simp⟩
theorem Det.no {α : Type} [Inhabited α] : Det fun _ : α → Prop => False := ⟨False,default,fun _ => by simp⟩
theorem Det.and {α : Type} {c : Prop} {Q : (α → Prop) → Prop} (h : Det Q) : Det fun K => c ∧ Q K := by
 obtain ⟨c',r,h⟩ := h
 exact ⟨c ∧ c',r,fun K => by simp only [h,and_assoc]⟩
theorem Det.map {α β : Type} {Q : (α → Prop) → Prop} (h : Det Q) (f : α → β) : Det fun K : β → Prop => Q fun x => K (f x) := by
 obtain ⟨c,r,h⟩ := h
 exact ⟨c,f r,fun K => h _⟩
theorem Det.bind {α β : Type} {Q : (α → Prop) → Prop} (h : Det Q) {f : α → (β → Prop) → Prop} (hf : ∀ x,Det (f x)) : Det fun K : β → Prop => Q fun x => f x K := by
 obtain ⟨c,r,h⟩ := h
 obtain ⟨c',r',h'⟩ := hf r
 exact ⟨c ∧ c',r',fun K => by simp only [h,h',and_assoc]⟩
theorem Det.some {α β : Type} [Inhabited β] {o : Option α} {f : α → (β → Prop) → Prop} (hf : ∀ x,Det (f x)) : Det fun K : β → Prop => vcSome o fun x => f x K := by
 cases o with
 | none => exact Det.no
 | some x => exact hf x
theorem Det.ite {α : Type} {c : Prop} [Decidable c] {Q R : (α → Prop) → Prop} (h : Det Q) (h' : Det R) : Det fun K => if c then Q K else R K := by
 by_cases hc : c
 ·simpa [hc] using h
 ·simpa [hc] using h'
theorem Det.get {α : Type} {Q : (α → Prop) → Prop} (h : Det Q) {K : α → Prop} (hq : Q K) : ∃ r,Q (fun x => x = r) ∧ K r := by
 obtain ⟨c,r,h⟩ := h
 obtain ⟨h1,h2⟩ := (h K).1 hq
 exact ⟨r,(h _).2 ⟨h1,rfl⟩,h2⟩
theorem Det.holds {α : Type} {Q : (α → Prop) → Prop} (h : Det Q) {P : α → Prop} (hp : Q P) {K : α → Prop} (hq : Q K) : Q fun x => P x ∧ K x := by
 obtain ⟨c,r,h⟩ := h
 exact (h _).2 ⟨((h _).1 hq).1,((h _).1 hp).2,((h _).1 hq).2⟩
theorem vcInts_det {op : BinOp} {k : IntKind} {a b : Int} : Det fun K => vcInts op k a b K := by
 unfold vcInts
 cases op <;> first | exact Det.leaf | exact Det.one | exact Det.no | exact Det.and Det.leaf
theorem vcShift_det {op : BinOp} {k : IntKind} {a b : Int} : Det fun K => vcShift op k a b K := by
 unfold vcShift
 cases op <;> first | exact Det.leaf | exact Det.no
theorem vcEqAgg_det {P : Program} {op : BinOp} {t : TypeId} {l l' : List AV} : Det fun K => vcEqAgg P op t l l' K := by
 unfold vcEqAgg
 generalize eqCells l l' = e
 cases op <;> cases e <;> first | exact Det.leaf | exact Det.no
theorem vcBin_det {op : BinOp} {t : TypeId} {x y : SV} : Det fun K => vcBin E op t x y K := by
 unfold vcBin
 cases x with
 | v x =>
  cases y with
  | v y =>
   cases x <;> cases y <;> first | exact Det.no | skip
   ·generalize E.T t = e
    rcases e with _ | ⟨d,_,_,_⟩
    ·cases op <;> exact Det.no
    ·cases op <;> cases d <;> first | exact Det.one | exact Det.no
   ·exact Det.ite vcShift_det (Det.and vcInts_det)
   ·cases op <;> first | exact Det.one | exact Det.leaf | exact Det.no
   ·exact vcEqAgg_det
  | _ => cases x <;> exact Det.no
 | _ => exact Det.no
theorem vcUn_det {op : UnOp} {x : SV} : Det fun K => vcUn op x K := by
 unfold vcUn
 cases x with
 | v x => cases op <;> cases x <;> first | exact Det.one | exact Det.leaf | exact Det.no
 | _ => cases op <;> exact Det.no
theorem vcConvert_det {s d : TypeId} {x : SV} : Det fun K => vcConvert E s d x K := by
 unfold vcConvert
 generalize E.T s = a
 generalize E.T d = b
 cases x with
 | v x =>
  cases x <;> first | exact Det.no | skip
  rcases a with _ | a <;> rcases b with _ | ⟨b,_,_,_⟩ <;> first | exact Det.no | skip
  cases b <;> first | exact Det.no | exact Det.leaf
 | _ => exact Det.no
theorem vcPick_det {c a b : SV} : Det fun K => vcPick c a b K := by
 unfold vcPick
 cases c with
 | v c =>
  cases c <;> first | exact Det.no | skip
  rename_i t
  cases t
  ·exact ⟨True,b,fun K => by simp⟩
  ·exact ⟨True,a,fun K => by simp⟩
 | _ => exact Det.no
theorem vcFrom_det {i : Option TyI} {l : List AV} : Det fun K => vcFrom i l K := by
 unfold vcFrom
 cases i with
 | none => exact Det.no
 | some i =>
  refine Det.ite Det.leaf ?_
  cases l with
  | nil => exact Det.no
  | cons => exact Det.one
theorem vcLoad_det {t : TypeId} {a : SV} {loc : Nat → Option (List AV)} {mem : Mem} : Det fun K => vcLoad E t a loc mem K := by
 unfold vcLoad
 cases a with
 | v a =>
  cases a <;> first | exact Det.no | exact vcFrom_det | skip
  rename_i b off
  simp only
  generalize mem b = m
  rcases m with _ | m
  ·exact Det.no
  ·cases m <;> first | exact Det.no | exact vcFrom_det
 | loc i off =>
  simp only
  generalize loc i = m
  cases m with
  | none => exact Det.no
  | some l => exact vcFrom_det
 | _ => exact Det.no
theorem vcStoreAt_det {t : TypeId} {x : AV} {l : List AV} {off : Nat} : Det fun K => vcStoreAt E t x l off K := by
 unfold vcStoreAt
 generalize E.T t = e
 cases e with
 | none => exact Det.no
 | some i => exact Det.leaf
theorem vcStore_det {t : TypeId} {a x : SV} {loc : Nat → Option (List AV)} {mem : Mem} : Det fun K => vcStore E t a x loc mem K := by
 unfold vcStore
 cases a with
 | v a =>
  cases x with
  | v x =>
   cases a <;> first | exact Det.no | skip
   rename_i b off
   simp only
   generalize mem b = m
   rcases m with _ | m
   ·exact Det.no
   ·cases m with
    | cells l => exact vcStoreAt_det.map fun l' => Eff.mset b (.cells l')
    | _ => exact Det.no
  | _ => cases a <;> exact Det.no
 | loc i off =>
  cases x with
  | v x =>
   simp only
   generalize loc i = m
   cases m with
   | none => exact Det.no
   | some l => exact vcStoreAt_det.map fun l' => Eff.set i l'
  | _ => exact Det.no
 | _ => exact Det.no
theorem vcNil_det {x : SV} : Det fun K => vcNil x K := by
 unfold vcNil
 cases x with
 | v x =>
  cases x <;> first | exact Det.no | exact Det.one | skip
  rename_i f _ _
  cases f <;> first | exact Det.no | exact Det.one
 | loc => exact Det.one
 | _ => exact Det.no
theorem vcFieldAddr_det {s : TypeId} {x : SV} {f : Nat} : Det fun K => vcFieldAddr E s x f K := by
 unfold vcFieldAddr
 generalize fieldOf E.T s f = e
 cases e with
 | none => exact Det.no
 | some p =>
  obtain ⟨off,i⟩ := p
  refine Det.and ?_
  cases x with
  | v x => cases x <;> first | exact Det.no | exact Det.one | exact Det.leaf
  | loc => exact Det.one
  | _ => exact Det.no
theorem vcField_det {s : TypeId} {x : SV} {f : Nat} : Det fun K => vcField E s x f K := by
 unfold vcField
 generalize fieldOf E.T s f = e
 cases e with
 | none => exact Det.no
 | some p =>
  obtain ⟨off,i⟩ := p
  cases x with
  | v x => cases x <;> first | exact Det.no | exact vcFrom_det
  | _ => exact Det.no
theorem VIdx_det {β : Type} [Inhabited β] {l : List AV} {i : Int} {f : AV → (β → Prop) → Prop} (hf : ∀ x,Det (f x)) : Det fun K => VIdx l i fun e => f e K := by
 unfold VIdx
 generalize l[i.toNat]? = e
 cases e with
 | none => exact ⟨False,default,fun K => by simp⟩
 | some e =>
  obtain ⟨c,r,h⟩ := hf e
  exact ⟨0 ≤ i ∧ c,r,fun K => by simp [h,and_assoc]⟩
theorem vcIndexAddr_det {t : TypeId} {x i : SV} : Det fun K => vcIndexAddr E t x i K := by
 unfold vcIndexAddr
 cases i with
 | v i =>
  cases i <;> first | exact Det.no | skip
  simp only
  generalize E.T t = e
  rcases e with _ | ⟨d,_,_,_⟩
  ·exact Det.no
  ·cases d <;> first | exact Det.no | skip
   ·rename_i e
    simp only
    generalize E.T e = ei
    cases ei with
    | none => exact Det.no
    | some ei =>
     cases x with
     | v x =>
      cases x <;> first | exact Det.no | exact Det.leaf | skip
      exact Det.and (VIdx_det fun e => Det.one)
     | loc => exact Det.no
     | lslice => exact Det.leaf
   ·rename_i e
    simp only
    generalize E.T e = ei
    cases ei with
    | none => exact Det.no
    | some ei =>
     refine Det.and ?_
     cases x with
     | v x => cases x <;> first | exact Det.no | exact Det.leaf | exact Det.one
     | loc => exact Det.one
     | lslice => exact Det.no
 | _ => exact Det.no
theorem vcIndex_det {t : TypeId} {x i : SV} : Det fun K => vcIndex E t x i K := by
 unfold vcIndex
 cases i with
 | v i =>
  cases i <;> first | exact Det.no | skip
  simp only
  generalize E.T t = e
  cases x with
  | v x =>
   rcases e with _ | ⟨d,_,_,_⟩
   ·cases x <;> exact Det.no
   ·cases x <;> cases d <;> first | exact Det.no | exact Det.leaf | skip
    rename_i e
    simp only
    generalize E.T e = ei
    cases ei with
    | none => exact Det.no
    | some ei => exact Det.and vcFrom_det
  | _ => exact Det.no
 | _ => exact Det.no
theorem vcBuild_det {t : TypeId} {ps : List (Nat × SV)} : Det fun K => vcBuild E t ps K := by
 unfold vcBuild
 generalize E.T t = e
 cases e with
 | none => exact Det.no
 | some i => exact Det.and (Det.and (Det.some fun _ => Det.one))
theorem vcBuildSlice_det {t : TypeId} {n : Nat} {ps : List (Nat × SV)} : Det fun K => vcBuildSlice E t n ps K := by
 unfold vcBuildSlice
 generalize E.T t = e
 rcases e with _ | ⟨d,_,_,_⟩
 ·exact Det.no
 ·cases d <;> first | exact Det.no | skip
  rename_i e
  simp only
  generalize E.T e = ei
  cases ei with
  | none => exact Det.no
  | some i => exact Det.and (Det.some fun _ => Det.one)
theorem vcSliceOp_det {t : TypeId} {x : SV} {lo hi mx : Option SV} : Det fun K => vcSliceOp E t x lo hi mx K := by
 unfold vcSliceOp
 cases mx with
 | some _ => exact Det.no
 | none =>
  simp only
  generalize E.T t = e
  rcases e with _ | ⟨d,_,_,_⟩
  ·cases x with
   | v x => cases x <;> exact Det.no
   | _ => exact Det.no
  ·cases x with
   | v x =>
    cases x <;> cases d <;> first | exact Det.no | skip
    ·simp only
     generalize bound 0 lo = b1
     generalize bound _ hi = b2
     cases b1 <;> cases b2 <;> first | exact Det.no | exact Det.leaf
    ·rename_i l e
     simp only
     generalize E.T e = ei
     generalize bound 0 lo = b1
     generalize bound _ hi = b2
     cases ei <;> cases b1 <;> cases b2 <;> first | exact Det.no | exact Det.leaf
    ·rename_i e
     simp only
     generalize E.T e = ei
     generalize bound 0 lo = b1
     generalize bound _ hi = b2
     cases ei <;> cases b1 <;> cases b2 <;> first | exact Det.no | exact Det.leaf
    ·rename_i e
     simp only
     generalize E.T e = ei
     generalize bound 0 lo = b1
     generalize bound _ hi = b2
     cases ei <;> cases b1 <;> cases b2 <;> first | exact Det.no | exact Det.leaf
   | loc j off =>
    cases d <;> first | exact Det.no | skip
    rename_i e
    simp only
    generalize E.T e = ei
    generalize bound 0 lo = b1
    generalize bound _ hi = b2
    cases ei <;> cases b1 <;> cases b2 <;> first | exact Det.no | exact Det.leaf
   | lslice =>
    cases d <;> first | exact Det.no | skip
    rename_i e
    simp only
    generalize E.T e = ei
    generalize bound 0 lo = b1
    generalize bound _ hi = b2
    cases ei <;> cases b1 <;> cases b2 <;> first | exact Det.no | exact Det.leaf
theorem vcExtract_det {x : SV} {i : Nat} : Det fun K => vcExtract x i K := by
 unfold vcExtract
 cases x with
 | v x =>
  cases x <;> first | exact Det.no | skip
  rename_i l
  simp only
  generalize l[i]? = e
  cases e with
  | none => exact Det.no
  | some _ => exact Det.one
 | _ => exact Det.no
theorem vcMinMax_det {b : Builtin} {xs : List SV} : Det fun K => vcMinMax b xs K := by
 unfold vcMinMax
 cases b <;> first | exact Det.no | skip
 all_goals
  rcases xs with _ | ⟨x,_ | ⟨y,_ | ⟨z,zs⟩⟩⟩
  ·exact Det.no
  ·cases x with
   | v x => cases x <;> exact Det.no
   | _ => exact Det.no
  ·cases x with
   | v x =>
    cases y with
    | v y => cases x <;> cases y <;> first | exact Det.no | exact Det.leaf
    | _ => cases x <;> exact Det.no
   | _ => exact Det.no
  ·cases x with
   | v x =>
    cases y with
    | v y => cases x <;> cases y <;> exact Det.no
    | _ => cases x <;> exact Det.no
   | _ => exact Det.no
theorem vcAppend_det {t t2 : TypeId} {s x : SV} {o : Bool} : Det fun K => vcAppend E t t2 s x o K := by
 unfold vcAppend
 generalize E.T t = e
 rcases e with _ | ⟨d,_,_,_⟩
 ·exact Det.no
 ·cases d <;> first | exact Det.no | skip
  cases s with
  | v s =>
   cases x with
   | v x =>
    cases s <;> cases x <;> first | exact Det.no | skip
    rename_i e _ _ _ _
    simp only
    generalize E.T e = ei
    cases ei with
    | none => exact Det.no
    | some _ => exact Det.leaf
   | _ => cases s <;> exact Det.no
  | _ => exact Det.no
theorem vcLenD_det {x : SV} : Det fun K => vcLenD x K := by
 unfold vcLenD
 cases x with
 | v x => cases x <;> first | exact Det.no | exact Det.one
 | lslice => exact Det.one
 | _ => exact Det.no
theorem vcLenTD_det {t : TypeId} {x : SV} : Det fun K => vcLenTD E t x K := by
 unfold vcLenTD
 generalize E.T t = e
 rcases e with _ | ⟨d,_,_,_⟩
 ·exact Det.no
 ·cases d <;> first | exact Det.no | exact vcLenD_det | exact Det.one | skip
  cases x with
  | v x => cases x <;> first | exact Det.no | exact Det.one
  | _ => exact Det.no
end
end Go.Proofs.Ytikodjpbknneoaa.Abs
/- Statements whose order is open,part 4: what an operation does is one thing,of one kind; and nothing is written where nothing is looked at. -/
namespace Go.Proofs.Ytikodjpbknneoaa.Abs
set_option linter.unusedSimpArgs false
open Go Go.RowKit
section
variable {E : Env}
theorem Det.put {α : Type} {Q : (α → Prop) → Prop} (h : Det Q) {f : α → Eff} {K : Eff → Prop} (hq : Q fun r => K (f r)) : ∃ r,Q (fun r' => f r' = f r) ∧ K (f r) := by
 obtain ⟨c,r,h⟩ := h
 obtain ⟨h1,h2⟩ := (h _).1 hq
 exact ⟨r,(h _).2 ⟨h1,rfl⟩,h2⟩
theorem vcLenT_of {t : TypeId} {x : SV} {K : AV → Prop} (h : vcLenTD E t x K) : vcLenT E t x K := by
 unfold vcLenTD at h
 unfold vcLenT
 generalize E.T t = e at h ⊢
 rcases e with _ | ⟨d,_,_,_⟩
 ·exact h
 ·cases d <;> try exact h
  simp only at h ⊢
  unfold vcLenD at h
  unfold vcLen
  cases x with
  | v x =>
   cases x <;> try exact h
   exact fun _ => h
  | _ => exact h
theorem evD_some {o : Oper} {ρ : TypeId → Operand → SV} {ow : Operand → Bool} {loc : Nat → Option (List AV)} {mem : Mem} {K : Eff → Prop} (h : evD E o ρ ow loc mem K) :
  ∃ e,ev E o ρ ow loc mem (fun e' => e' = e) ∧ K e ∧ Shape o e := by
 obtain ⟨dst,op,type,pos,after,guard⟩ := o
 have sh : ∀ {x b},isWriter op = false → Shape ⟨dst,op,type,pos,after,guard⟩ (.put x b) := fun {x b} hw => .inr (.inr ⟨hw,x,b,rfl⟩)
 unfold evD ev at h
 unfold ev
 cases op <;> simp only at h ⊢
 case move x => exact ⟨_,rfl,h,sh rfl⟩
 case assign x => exact ⟨_,rfl,h,sh rfl⟩
 case pick c x y => obtain ⟨r,h1,h2⟩ := vcPick_det.put h; exact ⟨_,h1,h2,sh rfl⟩
 case alloc t =>
  cases dst with
  | none => exact h.2.elim
  | some d =>
   simp only at h ⊢
   obtain ⟨hs,h⟩ := h
   split at h
   ·exact ⟨_,⟨h.1,rfl⟩,h.2,.inr (.inl ⟨rfl,rfl,_,_,rfl⟩)⟩
   ·rename_i he _; rw [he] at hs; exact hs.elim
   ·exact h.elim
 case box t x =>
  obtain ⟨hs,h⟩ := h
  split at h
  ·obtain ⟨h1,h2⟩ := h
   split at h2
   ·exact ⟨_,⟨h1,rfl⟩,h2,sh rfl⟩
   ·exact ⟨_,⟨h1,h2.1,rfl⟩,h2.2,.inr (.inl ⟨rfl,rfl,_,_,rfl⟩)⟩
   ·rename_i he; simp only at hs; rw [he] at hs; exact hs.elim
  ·exact h.elim
 case makeSlice t n c =>
  cases dst with
  | none => exact h.2.elim
  | some d =>
   simp only at h ⊢
   obtain ⟨hs,h⟩ := h
   split at h
   ·rename_i he; rw [he] at hs; exact hs.elim
   ·unfold vcMakeSlice at h ⊢
    obtain ⟨h0,h⟩ := h
    split at h
    ·split at h
     ·exact ⟨_,⟨h0,h.1,rfl⟩,h.2,.inr (.inl ⟨rfl,rfl,_,_,rfl⟩)⟩
     ·exact h.elim
    ·exact h.elim
 case lookup t x k ok =>
  unfold vcLookup at h ⊢
  split at h
  ·split at h
   ·obtain ⟨f,h0,h⟩ := h
    simp only at h
    split at h
    ·rename_i y val heq
     exact ⟨.put (.v (if ok = true then .tuple [y,.bool true] else y)) false,⟨some y,h0,by simp only [heq]⟩,h,sh rfl⟩
    ·rename_i i heq
     exact ⟨.put (.v (if ok = true then .tuple [zeroOf i,.bool false] else zeroOf i)) false,⟨none,h0,by simp only [heq]⟩,h,sh rfl⟩
    ·exact h.elim
   ·exact h.elim
  ·obtain ⟨h0,h⟩ := h
   split at h
   ·split at h
    ·exact ⟨_,⟨h0,rfl⟩,h,sh rfl⟩
    ·exact ⟨_,⟨h0,rfl⟩,h,sh rfl⟩
    ·exact h.elim
   ·exact h.elim
  ·exact h.elim
 case mapUpdate t x k y =>
  unfold vcMapUpdate at h ⊢
  split at h
  ·split at h
   ·exact ⟨_,⟨h.1,rfl⟩,h.2,.inl ⟨rfl,.inr ⟨_,_,rfl⟩⟩⟩
   ·exact h.elim
  ·obtain ⟨h0,h⟩ := h
   split at h
   ·exact ⟨_,⟨h0,h.1,rfl⟩,h.2,.inl ⟨rfl,.inr ⟨_,_,rfl⟩⟩⟩
   ·exact h.elim
  ·exact h.elim
 case store t p x =>
  obtain ⟨e,h1,h2⟩ := vcStore_det.get h
  refine ⟨e,h1,h2,.inl ⟨rfl,?_⟩⟩
  unfold vcStore at h1
  split at h1
  ·split at h1
   ·obtain ⟨r,h3,h4⟩ := vcStoreAt_det.get h1
    exact .inl ⟨_,_,h4.symm⟩
   ·exact h1.elim
  ·split at h1
   ·obtain ⟨r,h3,h4⟩ := vcStoreAt_det.get h1
    exact .inr ⟨_,_,h4.symm⟩
   ·exact h1.elim
  ·exact h1.elim
 case build t parts => obtain ⟨r,h1,h2⟩ := vcBuild_det.put (f := fun r => .put (.v r) false) h; exact ⟨_,h1,h2,sh rfl⟩
 case buildSlice t len parts => obtain ⟨r,h1,h2⟩ := vcBuildSlice_det.put (f := fun r => .put (.v r) true) h.2; exact ⟨_,⟨h.1,h1⟩,h2,sh rfl⟩
 case load t x => obtain ⟨r,h1,h2⟩ := vcLoad_det.put (f := fun r => .put (.v r) false) h; exact ⟨_,h1,h2,sh rfl⟩
 case nilCheck x => obtain ⟨r,h1,h2⟩ := vcNil_det.put (f := fun r => .put r false) h; exact ⟨_,h1,h2,sh rfl⟩
 case binOp op t x y yt => obtain ⟨r,h1,h2⟩ := vcBin_det.put (f := fun r => .put (.v r) false) h; exact ⟨_,h1,h2,sh rfl⟩
 case unOp op t x => obtain ⟨r,h1,h2⟩ := vcUn_det.put (f := fun r => .put (.v r) false) h; exact ⟨_,h1,h2,sh rfl⟩
 case convert s d x => obtain ⟨r,h1,h2⟩ := vcConvert_det.put (f := fun r => .put (.v r) false) h; exact ⟨_,h1,h2,sh rfl⟩
 case makeFunc f first caps =>
  have hd : Det fun K : Eff → Prop => vcSome (avs (first.toList.map (ρ 0))) fun fs => vcSome (avs (caps.toList.map (ρ 0))) fun cs => K (.put (.v (.fn f fs cs)) false) := Det.some fun _ => Det.some fun _ => Det.one
  have hm := hd.holds (P := fun e => ∃ r,e = .put r false) (by
   unfold vcSome at h ⊢
   split at h
   ·split at h
    ·exact ⟨_,rfl⟩
    ·exact h.elim
   ·exact h.elim) h
  obtain ⟨e,h1,⟨r,rfl⟩,h2⟩ := hd.get (K := fun x => (∃ r,x = Eff.put r false) ∧ K x) hm
  exact ⟨_,h1,h2,sh rfl⟩
 case slice t x lo hi mx => obtain ⟨r,h1,h2⟩ := vcSliceOp_det.put (f := fun r => .put r false) h; exact ⟨_,h1,h2,sh rfl⟩
 case fieldAddr s x f => obtain ⟨r,h1,h2⟩ := vcFieldAddr_det.put (f := fun r => .put r false) h; exact ⟨_,h1,h2,sh rfl⟩
 case field s x f => obtain ⟨r,h1,h2⟩ := vcField_det.put (f := fun r => .put (.v r) false) h; exact ⟨_,h1,h2,sh rfl⟩
 case indexAddr t x i => obtain ⟨r,h1,h2⟩ := vcIndexAddr_det.put (f := fun r => .put r false) h; exact ⟨_,h1,h2,sh rfl⟩
 case index t x i => obtain ⟨r,h1,h2⟩ := vcIndex_det.put (f := fun r => .put (.v r) false) h; exact ⟨_,h1,h2,sh rfl⟩
 case extract x i => obtain ⟨r,h1,h2⟩ := vcExtract_det.put (f := fun r => .put (.v r) false) h; exact ⟨_,h1,h2,sh rfl⟩
 case call c =>
  generalize c.callee = cl at h ⊢
  cases cl <;> simp only at h ⊢ <;> try exact h.elim
  rename_i b
  obtain ⟨h0,h⟩ := h
  unfold vcBuiltinD at h
  unfold vcBuiltin
  cases b <;> simp only at h ⊢ <;> try exact h.elim
  case len =>
   split at h
   ·rename_i he1 he2
    rw [he1] at he2
    rw [he1,he2]
    obtain ⟨r,h1,h2⟩ := vcLenTD_det.put (f := fun r => .put (.v r) false) h; exact ⟨_,⟨h0,vcLenT_of h1⟩,h2,sh rfl⟩
   ·exact h.elim
  case append =>
   unfold vcBuiltin at h
   simp only at h
   split at h
   ·obtain ⟨r,h1,h2⟩ := vcAppend_det.put (f := fun r => .put (.v r) true) h; exact ⟨_,⟨h0,h1⟩,h2,sh rfl⟩
   ·exact h.elim
  case min =>
   unfold vcBuiltin at h
   simp only at h
   obtain ⟨r,h1,h2⟩ := vcMinMax_det.put (f := fun r => .put (.v r) false) h; exact ⟨_,⟨h0,h1⟩,h2,sh rfl⟩
  case max =>
   unfold vcBuiltin at h
   simp only at h
   obtain ⟨r,h1,h2⟩ := vcMinMax_det.put (f := fun r => .put (.v r) false) h; exact ⟨_,⟨h0,h1⟩,h2,sh rfl⟩
  all_goals
   unfold vcBuiltin at h
   exact h.elim
theorem ev_blind {o : Oper} {ρ : TypeId → Operand → SV} {ow : Operand → Bool} {K : Eff → Prop} (h : ev E o ρ ow noneF noneF K) : isWriter o.op = false := by
 obtain ⟨dst,op,type,pos,after,guard⟩ := o
 cases op <;> try rfl
 ·unfold ev vcStore at h
  simp only at h
  split at h
  ·exact h.elim
  ·exact h.elim
  ·exact h.elim
 ·unfold ev vcMapUpdate at h
  simp only at h
  split at h
  ·exact h.elim
  ·exact h.2.elim
  ·exact h.elim
end
end Go.Proofs.Ytikodjpbknneoaa.Abs
/- Statements whose order is open,part 5: two operations that nothing orders can change places; so any order does what the text's order does. -/
namespace Go.Proofs.Ytikodjpbknneoaa.Abs
set_option linter.unusedSimpArgs false
open Go Go.RowKit
section
variable {E : Env}
theorem takes_mem {o : Oper} {t : Tmp} (h : takes o = some (.tmp t)) : Operand.tmp t ∈ o.op.operands := by
 unfold takes at h
 split at h
 ·rename_i hop; rw [hop]; simp [Op.operands] at h ⊢; exact h.symm
 ·rename_i hop; rw [hop]; simp [Op.operands] at h ⊢; exact h.symm
 ·rename_i c hop
  split at h
  ·rename_i hb
   rw [hop]
   simp only [Op.operands,Call.operands,hb]
   have := List.mem_of_mem_head? (by rw [h]; rfl : Operand.tmp t ∈ c.args.toList.head?)
   simpa using this
  ·cases h
 ·cases h
theorem looks_op {ops : Array Oper} {o : Oper} {t : Tmp} (h : Operand.tmp t ∈ o.op.operands) : t ∈ o.looksAt ops := by
 unfold Oper.looksAt
 rw [List.mem_append]
 refine .inl ?_
 rw [List.mem_filterMap]
 exact ⟨.tmp t,by simpa using h,rfl⟩
theorem looks_guard {ops : Array Oper} {o : Oper} {j : Nat} {want : Bool} {d : Tmp} (hg : o.guard = some (j,want)) (hd : gslot ops j = some d) : d ∈ o.looksAt ops := by
 unfold Oper.looksAt
 rw [List.mem_append]
 refine .inr ?_
 rw [hg]
 simp only
 rw [show (ops[j]?).bind (·.dst) = some d from hd]
 simp
theorem sv_congr {st st' : St} {ty : TypeId} {x : Operand} (h : ∀ t,x = .tmp t → st'.vals t = st.vals t) : st'.sv E.T ty x = st.sv E.T ty x := by
 cases x with
 | tmp t => exact h t rfl
 | _ => rfl
theorem ow_congr {st st' : St} {x : Operand} (h : ∀ t,x = .tmp t → st'.own t = st.own t) : st'.ow x = st.ow x := by
 cases x with
 | tmp t => exact h t rfl
 | const v =>
  unfold St.ow
  cases v <;> try rfl
  rename_i p n m
  cases p <;> try rfl
  cases n <;> try rfl
  cases m <;> rfl
 | _ => rfl
theorem dact_move {lin : Nat → Bool} {hide : Bool} {k : Nat} {ops : Array Oper} {o : Oper} {st st' : St} {tk : Option Nat} {e : Eff} (hv : ∀ t ∈ o.looksAt ops,st'.vals t = st.vals t) (ho : ∀ t ∈ o.looksAt ops,st'.own t = st.own t)
  (hm : hide = false → (st'.loc = st.loc ∨ isCallV o = true) ∧ st'.mem = st.mem) (hm3 : hidM o k st' = hidM o k st) (hn : ∀ d,o.dst = some d → (∃ c sl,e = .new c sl) → Shape o e → st.loc d = none → st'.loc d = none) (h : DAct E lin hide k ops o st tk e) : DAct E lin hide k ops o st' tk e := by
 have hsv : ∀ x ∈ o.op.operands,∀ ty,st'.sv E.T ty x = st.sv E.T ty x := fun x hx ty => sv_congr fun t ht => hv t (looks_op (ht ▸ hx))
 have how : ∀ x ∈ o.op.operands,st'.ow x = st.ow x := fun x hx => ow_congr fun t ht => ho t (looks_op (ht ▸ hx))
 have hg : ∀ b,DGuard ops o st b → DGuard ops o st' b := by
  intro b h
  unfold DGuard at h ⊢
  split at h
  ·exact h
  ·rename_i j want hgu
   split at h
   ·exact h.elim
   ·rename_i d hd
    rw [hv d (looks_guard hgu hd)]
    exact h
 rcases h with ⟨h1,h⟩ | ⟨h1,h⟩
 ·refine .inl ⟨hg _ h1,?_⟩
  rcases h with ⟨h2,h3,h4,h5⟩ | ⟨x,hx,h2,h3⟩ | ⟨c,f,g,first,caps,ys,r,hop,hcf,hlen,hfe,hys,hp,h2,h3⟩ | ⟨hk,hh,c,f,g,first,caps,ys,r,m1,hop,hcf,hlen,hfe,hys,hp,h2,h3⟩
  ·refine .inl ⟨?_,h3,h4,fun d hd hnew => hn d hd hnew h3 (h5 d hd hnew)⟩
   have := ev_congr (ρ' := st'.sv E.T) (ow' := st'.ow) (loc' := if hide = true then noneF else st.loc) (fun x hx ty => (hsv x hx ty).symm) (fun x hx => (how x hx).symm) (fun _ _ => rfl) h2
   cases hide with
   | true => rw [hm3]; exact this
   | false =>
    obtain ⟨e1,e2⟩ := hm rfl
    rcases e1 with e1 | e1
    ·rw [e1,e2]; exact this
    ·exfalso
     unfold isCallV at e1
     unfold ev at h2
     split at e1
     ·rename_i c hop
      rw [hop] at h2
      split at e1
      ·rename_i x hcf
       simp only [hcf] at h2
      ·cases e1
     ·cases e1
  ·refine .inr (.inl ⟨x,hx,h2,?_⟩)
   rw [hsv x (by rcases hx with hx | hx <;> rw [hx] <;> simp [Op.operands])]
   exact h3
  ·refine .inr (.inr (.inl ⟨c,f,g,first,caps,ys,r,hop,hcf,hlen,?_,?_,hp.imp id fun ⟨q,hq⟩ => ⟨q,by rw [(hm q).2]; exact hq⟩,h2,h3⟩))
   ·rw [hsv f (by rw [hop]; simp [Op.operands,Call.operands,hcf])]; exact hfe
   ·rw [zip_congr (ρ := st'.sv E.T) (ρ' := st.sv E.T) fun x hx ty => hsv x (by rw [hop]; simp [Op.operands,Call.operands,hcf]; exact .inr (by simpa using hx)) ty]; exact hys
  ·refine .inr (.inr (.inr ⟨hk,hh,c,f,g,first,caps,ys,r,m1,hop,hcf,hlen,?_,?_,?_,h2,h3⟩))
   ·rw [hsv f (by rw [hop]; simp [Op.operands,Call.operands,hcf])]; exact hfe
   ·rw [zip_congr (ρ := st'.sv E.T) (ρ' := st.sv E.T) fun x hx ty => hsv x (by rw [hop]; simp [Op.operands,Call.operands,hcf]; exact .inr (by simpa using hx)) ty]; exact hys
   ·rw [(hm hh).2]; exact hp
 ·exact .inr ⟨hg _ h1,h⟩
theorem DAct.take {lin : Nat → Bool} {hide : Bool} {k : Nat} {ops : Array Oper} {o : Oper} {st : St} {tk : Option Nat} {e : Eff} (h : DAct E lin hide k ops o st tk e) : ∀ t,tk = some t → lin t = true ∧ t ∈ o.looksAt ops := by
 intro t ht
 subst ht
 rcases h with ⟨_,h⟩ | ⟨_,h,_⟩
 ·rcases h with ⟨_,_,h,_⟩ | ⟨_,_,h,_⟩ | ⟨_,_,_,_,_,_,_,_,_,_,_,_,_,h,_⟩ | ⟨_,_,_,_,_,_,_,_,_,_,_,_,_,_,_,_,h,_⟩
  ·split at h
   ·rename_i x hx
    obtain ⟨h1,h2⟩ := h
    injection h2 with h2
    subst h2
    exact ⟨h1,looks_op (takes_mem hx)⟩
   ·cases h
  ·cases h
  ·cases h
  ·cases h
 ·cases h
theorem DAct.kind {lin : Nat → Bool} {hide : Bool} {k : Nat} {ops : Array Oper} {o : Oper} {st : St} {tk : Option Nat} {e : Eff} (h : DAct E lin hide k ops o st tk e) :
  (∃ x b,e = .put x b) ∨ (isNewer o.op = true ∧ ∃ c sl,e = .new c sl) ∨ ((isWriter o.op = true ∨ k = 1 ∨ k = 2) ∧ hide = false ∧ ((isWriter o.op = true ∧ ((∃ i c,e = .set i c) ∨ (∃ b x,e = .mset b x))) ∨ ∃ x m,e = .call x m)) := by
 rcases h with ⟨_,h⟩ | ⟨_,_,h⟩
 ·rcases h with ⟨h,h',_,_⟩ | ⟨_,_,_,h⟩ | ⟨_,_,_,_,_,_,_,_,_,_,_,_,_,_,h⟩ | ⟨hk,hh,_,_,_,_,_,_,_,_,_,_,_,_,_,_,_,h⟩
  ·rcases h' with ⟨h1,h2⟩ | ⟨_,h1,h2⟩ | ⟨_,h2⟩
   ·refine .inr (.inr ⟨.inl h1,?_,.inl ⟨h1,h2⟩⟩)
    cases hide with
    | false => rfl
    | true =>
     have hnl : isLook o.op = false := by
      generalize o.op = op at h1 ⊢
      cases op <;> first | rfl | cases h1
     have e : (if true = true then (if k = 0 then noneF else hidM o k st) else st.mem) = noneF := by
      have e1 : hidM o k st = noneF := by unfold hidM; rw [if_neg (by rw [hnl]; decide)]
      rw [if_pos rfl,e1,ite_self]
     rw [e,if_pos rfl] at h
     have := ev_blind h
     rw [h1] at this; cases this
   ·exact .inr (.inl ⟨h1,h2⟩)
   ·exact .inl h2
  ·exact .inl ⟨_,_,h⟩
  ·exact .inl ⟨_,_,h⟩
  ·exact .inr (.inr ⟨.inr (.inl hk),hh,.inr ⟨_,_,h⟩⟩)
 ·exact .inl ⟨_,_,h⟩
theorem DAct.store {lin : Nat → Bool} {hide : Bool} {k : Nat} {ops : Array Oper} {o : Oper} {st : St} {tk : Option Nat} {e : Eff} (h : DAct E lin hide k ops o st tk e) {s : Nat} (hs : storesAt o s = true) :
  (∃ x b,e = .put x b) ∨ (∃ i c,e = .set i c) ∨ ∃ b off x,e = .mset b x ∧ st.vals s = .v (.ptr b off) := by
 unfold storesAt at hs
 split at hs
 ·rename_i ty t x hop
  have ht : t = s := by simpa using hs
  subst ht
  rcases h with ⟨_,h⟩ | ⟨_,_,h⟩
  ·rcases h with ⟨h,_,_,_⟩ | ⟨y,hy,_,h⟩ | ⟨c,_,_,_,_,_,_,hc,_⟩ | ⟨_,_,c,_,_,_,_,_,_,_,hc,_⟩
   ·unfold ev at h
    rw [hop] at h
    simp only at h
    unfold vcStore at h
    have hsv : st.sv E.T 0 (.tmp t) = st.vals t := rfl
    split at h
    ·split at h
     ·obtain ⟨r,h3,h4⟩ := vcStoreAt_det.get h
      exact .inr (.inl ⟨_,_,h4.symm⟩)
     ·exact h.elim
    ·rename_i b off y hb hx
     split at h
     ·obtain ⟨r,h3,h4⟩ := vcStoreAt_det.get h
      exact .inr (.inr ⟨_,_,_,h4.symm,by rw [← hsv,hb]⟩)
     ·exact h.elim
    ·exact h.elim
   ·rcases hy with hy | hy <;> rw [hop] at hy <;> cases hy
   ·rw [hop] at hc; cases hc
   ·rw [hop] at hc; cases hc
  ·exact .inl ⟨_,_,h⟩
 ·cases hs
def Calm (oj : Oper) (kj ki : Nat) : Prop := ((isWriter oj.op = true ∨ kj = 1 ∨ kj = 2) → ki ≠ 3 ∧ (4 ≤ ki → (kj ≠ 1 ∧ kj ≠ 2) ∧ storesAt oj (ki - 4) = true)) ∧ (4 ≤ ki → oj.dst ≠ some (ki - 4))
structure PairOk (lin : Nat → Bool) (ops : Array Oper) (oi oj : Oper) (hi hj : Bool) (ki kj : Nat) : Prop where
 ap : oi.apart ops oj = true
 l1 : loud kj oj = true → hi = true
 l2 : loud ki oi = true → hj = true ∨ ((isWriter oi.op = false ∧ ki ≠ 1 ∧ ki ≠ 2) ∧ isCallV oj = true)
 m1 : Calm oj kj ki
 m2 : Calm oi ki kj
 li : ∀ t,lin t = true → t ∈ oi.looksAt ops → t ∉ oj.looksAt ops
theorem valsU_ne {d : Option Tmp} {e : Eff} {v : Nat → SV} {t : Nat} (h : d ≠ some t) : valsU d e v t = v t := by
 unfold valsU
 cases d with
 | none => rfl
 | some d =>
  have h' : t ≠ d := fun h' => h (by rw [h'])
  cases e <;> simp only [upd,if_neg h']
theorem ownU_ne {d : Option Tmp} {tk : Option Nat} {e : Eff} {o : Nat → Bool} {t : Nat} (h : d ≠ some t) (h' : tk ≠ some t) : ownU d tk e o t = o t := by
 unfold ownU
 have h2 : (match tk with | some t => upd o t false | none => o) t = o t := by
  cases tk with
  | none => rfl
  | some k =>
   have : t ≠ k := fun e => h' (by rw [e])
   simp only [upd,if_neg this]
 cases d with
 | none => exact h2
 | some d =>
  have h3 : t ≠ d := fun e => h (by rw [e])
  cases e <;> simp only [upd,if_neg h3] <;> exact h2
theorem valsU_comm {d d' : Option Tmp} {e e' : Eff} {v : Nat → SV} (h : ∀ t,d = some t → d' ≠ some t) : valsU d e (valsU d' e' v) = valsU d' e' (valsU d e v) := by
 funext t
 by_cases h1 : d = some t
 ·rw [valsU_ne (d := d') (h t h1)]
  subst h1
  unfold valsU
  cases e <;> simp [upd]
 ·rw [valsU_ne h1]
  by_cases h2 : d' = some t
  ·subst h2
   unfold valsU
   cases e' <;> simp [upd]
  ·rw [valsU_ne h2,valsU_ne h2,valsU_ne h1]
theorem ownU_comm {d d' : Option Tmp} {tk tk' : Option Nat} {e e' : Eff} {o : Nat → Bool} (h : ∀ t,d = some t → d' ≠ some t) (h1 : ∀ t,tk = some t → d' ≠ some t) (h2 : ∀ t,tk' = some t → d ≠ some t) :
  ownU d tk e (ownU d' tk' e' o) = ownU d' tk' e' (ownU d tk e o) := by
 have none_ : ∀ (d : Option Tmp) (tk : Option Nat) (e : Eff) (o : Nat → Bool) (t : Nat),d ≠ some t → ownU d tk e o t = if tk = some t then false else o t := by
  intro d tk e o t hd
  by_cases hk : tk = some t
  ·rw [if_pos hk]
   subst hk
   unfold ownU
   cases d with
   | none => simp [upd]
   | some d =>
    have h3 : t ≠ d := fun e => hd (by rw [e])
    cases e <;> simp [upd,h3]
  ·rw [if_neg hk]; exact ownU_ne hd hk
 have some_ : ∀ (tk : Option Nat) (e : Eff) (o o' : Nat → Bool) (t : Nat),ownU (some t) tk e o t = ownU (some t) tk e o' t := by
  intro tk e o o' t
  unfold ownU
  cases e <;> simp [upd]
 funext t
 by_cases a1 : d = some t
 ·subst a1
  have a2 : d' ≠ some t := h t rfl
  rw [none_ d' tk' e' _ t a2]
  have a3 : tk' ≠ some t := fun e => h2 t e rfl
  rw [if_neg a3]
  exact some_ _ _ _ _ _
 ·rw [none_ d tk e _ t a1]
  by_cases a2 : d' = some t
  ·subst a2
   have a3 : tk ≠ some t := fun e => h1 t e rfl
   rw [if_neg a3]
   exact some_ _ _ _ _ _
  ·rw [none_ d' tk' e' _ t a2,none_ d' tk' e' _ t a2,none_ d tk e _ t a1]
   split <;> split <;> rfl
theorem upd_comm {α : Type} {f : Nat → α} {i j : Nat} {x y : α} (h : i ≠ j) : upd (upd f i x) j y = upd (upd f j y) i x := by
 funext k
 unfold upd
 by_cases h1 : k = j
 ·subst h1
  rw [if_pos rfl,if_neg (Ne.symm h),if_pos rfl]
 ·rw [if_neg h1]
  by_cases h2 : k = i
  ·rw [if_pos h2,if_pos h2]
  ·rw [if_neg h2,if_neg h2,if_neg h1]
theorem loud_of {k : Nat} {o : Oper} (h : isWriter o.op = true ∨ k = 1 ∨ k = 2) : loud k o = true := by
 unfold loud
 rcases h with h | rfl | rfl
 ·simp [h]
 ·simp
 ·simp
theorem loud_new {k : Nat} {o : Oper} (h : isNewer o.op = true) : loud k o = true := by simp [loud,h]
theorem hidM_calm {oi oj : Oper} {ki kj : Nat} {st : St} {tkj : Option Nat} {ej : Eff} (hc : Calm oj kj ki)
  (hk : (∃ x b,ej = .put x b) ∨ (isNewer oj.op = true ∧ ∃ c sl,ej = .new c sl) ∨ (isWriter oj.op = true ∨ kj = 1 ∨ kj = 2))
  (hs : ∀ s,storesAt oj s = true → (∃ x b,ej = .put x b) ∨ (∃ i c,ej = .set i c) ∨ ∃ b off x,ej = .mset b x ∧ st.vals s = .v (.ptr b off)) : hidM oi ki (DTo oj tkj ej st) = hidM oi ki st := by
 unfold hidM
 split
 ·have hmem : (¬ (isWriter oj.op = true ∨ kj = 1 ∨ kj = 2)) → memU ej st.mem = st.mem := fun q => by
   rcases hk with ⟨x,b,rfl⟩ | ⟨_,c,sl,rfl⟩ | hk
   ·rfl
   ·rfl
   ·exact absurd hk q
  by_cases k3 : ki = 3
  ·rw [if_pos k3,if_pos k3]
   exact hmem fun q => (hc.1 q).1 k3
  ·rw [if_neg k3,if_neg k3]
   split
   ·rename_i h4
    have hv : (DTo oj tkj ej st).vals (ki - 4) = st.vals (ki - 4) := valsU_ne (hc.2 h4)
    rw [hv]
    show maskM _ (memU ej st.mem) = _
    by_cases q : isWriter oj.op = true ∨ kj = 1 ∨ kj = 2
    ·rcases hs _ ((hc.1 q).2 h4).2 with ⟨x,b,rfl⟩ | ⟨i,c,rfl⟩ | ⟨b,off,x,rfl,hb⟩
     ·rfl
     ·rfl
     ·rw [hb]
      show upd (upd st.mem b (some x)) b none = upd st.mem b none
      funext k
      unfold upd
      split <;> rfl
    ·rw [hmem q]
   ·rfl
 ·rfl
theorem DActS.cases {lin : Nat → Bool} {hide : Bool} {k : Nat} {ops : Array Oper} {o : Oper} {st : St} {S : Option Nat → Eff → Prop} (h : DActS E lin hide k ops o st S) :
  (∃ tk e,DAct E lin hide k ops o st tk e ∧ S tk e) ∨ (k = 2 ∧ hide = false ∧ DGuard ops o st true ∧ ∃ c f,o.op = .call c ∧ c.callee = .value f ∧ c.argTypes.toList.length = c.args.toList.length ∧
  vcCallS E (st.sv E.T 0 f) ((c.argTypes.toList.zip c.args.toList).map fun p => st.sv E.T p.1 p.2) st.mem S) ∨ (k = 2 ∧ hide = false ∧ DGuard ops o st true ∧ (∃ c,o.op = .call c) ∧ vcAppE E o st (S none)) := h
theorem locU_none {d : Option Tmp} {e : Eff} {l : Nat → Option (List AV)} {t : Nat} (h : locU d e l t = none) : l t = none := by
 have up : ∀ {k : Nat} {c : List AV},upd l k (some c) t = none → l t = none := by
  intro k c h
  unfold upd at h
  split at h
  ·cases h
  ·exact h
 unfold locU at h
 cases e with
 | set i c => exact up h
 | setp x i c => exact up h
 | new c sl =>
  cases d with
  | none => exact h
  | some k => exact up h
 | _ => exact h
theorem dact_back {lin : Nat → Bool} {ops : Array Oper} {oi oj : Oper} {hi hj : Bool} {ki kj : Nat} {st : St} {tki : Option Nat} {ei : Eff} (hp : PairOk lin ops oi oj hi hj ki kj) (h : DAct E lin hi ki ops oi st tki ei) :
  (∀ t ∈ oj.looksAt ops,st.vals t = (DTo oi tki ei st).vals t) ∧ (∀ t ∈ oj.looksAt ops,st.own t = (DTo oi tki ei st).own t) ∧ (hj = false → (st.loc = (DTo oi tki ei st).loc ∨ isCallV oj = true) ∧ st.mem = (DTo oi tki ei st).mem) ∧ hidM oj kj st = hidM oj kj (DTo oi tki ei st) := by
 obtain ⟨a1,a2,a3⟩ := Oper.apart_spec hp.ap
 refine ⟨fun t ht => (valsU_ne fun e => a1 t e ht).symm,fun t ht => (ownU_ne (fun e => a1 t e ht) fun e => ?_).symm,fun e => ?_,(hidM_calm hp.m2 (h.kind.imp id (Or.imp id (·.1))) fun s hs => h.store hs).symm⟩
 ·obtain ⟨k1,k2⟩ := h.take t e
  exact hp.li t k1 k2 ht
 ·rcases h.kind with ⟨x,b,rfl⟩ | ⟨k,_⟩ | ⟨k,_⟩
  ·exact ⟨.inl rfl,rfl⟩
  ·rename_i hn
   obtain ⟨c,sl,rfl⟩ := hn
   rcases hp.l2 (loud_new k) with q | q
   ·rw [q] at e; cases e
   ·exact ⟨.inr q.2,rfl⟩
  ·rcases hp.l2 (loud_of k) with q | q
   ·rw [q] at e; cases e
   ·exfalso
    rcases k with k | k | k
    ·rw [q.1.1] at k; cases k
    ·exact q.1.2.1 k
    ·exact q.1.2.2 k
theorem dact_on {lin : Nat → Bool} {ops : Array Oper} {oi oj : Oper} {hi hj : Bool} {ki kj : Nat} {st : St} {tki tkj : Option Nat} {ei ej : Eff} (hp : PairOk lin ops oi oj hi hj ki kj) (h : DAct E lin hi ki ops oi st tki ei)
  (htk : ∀ t,tkj = some t → lin t = true ∧ t ∈ oj.looksAt ops)
  (kj' : (∃ x b,ej = .put x b) ∨ (isNewer oj.op = true ∧ ∃ c sl,ej = .new c sl) ∨ ((isWriter oj.op = true ∨ kj = 1 ∨ kj = 2) ∧ hj = false ∧ ((isWriter oj.op = true ∧ ((∃ i c,ej = .set i c) ∨ (∃ b x,ej = .mset b x))) ∨ ∃ x m,ej = .call x m)))
  (hsj : ∀ s,storesAt oj s = true → (∃ x b,ej = .put x b) ∨ (∃ i c,ej = .set i c) ∨ ∃ b off x,ej = .mset b x ∧ st.vals s = .v (.ptr b off)) :
  DAct E lin hi ki ops oi (DTo oj tkj ej st) tki ei ∧ DTo oj tkj ej (DTo oi tki ei st) = DTo oi tki ei (DTo oj tkj ej st) := by
 obtain ⟨a1,a2,a3⟩ := Oper.apart_spec hp.ap
 have ki' := h.kind
 have quietj : hi = false → ∃ x b,ej = .put x b := fun e => by
  rcases kj' with k | ⟨k,_⟩ | ⟨k,_⟩
  ·exact k
  ·rw [hp.l1 (loud_new k)] at e; cases e
  ·rw [hp.l1 (loud_of k)] at e; cases e
 constructor
 ·refine dact_move (fun t ht => ?_) (fun t ht => ?_) (fun e => ?_) (hidM_calm hp.m1 (kj'.imp id (Or.imp id (·.1))) hsj) (fun d hd hn hs hl => ?_) h
  ·exact valsU_ne fun e => a3 t e ht
  ·refine ownU_ne (fun e => a3 t e ht) fun e => ?_
   obtain ⟨k1,k2⟩ := htk t e
   exact hp.li t k1 ht k2
  ·obtain ⟨x,b,rfl⟩ := quietj e
   exact ⟨.inl rfl,rfl⟩
  ·show locU oj.dst ej st.loc d = none
   have hloud : loud ki oi = true := by
    obtain ⟨c,sl,rfl⟩ := hn
    rcases ki' with ⟨_,_,k⟩ | ⟨k,_⟩ | ⟨k,_⟩
    ·cases k
    ·exact loud_new k
    ·exact loud_of k
   rcases kj' with ⟨x,b,rfl⟩ | ⟨_,c,sl,rfl⟩ | ⟨_,k,kk⟩
   ·exact hl
   ·unfold locU
    cases hd' : oj.dst with
    | none => exact hl
    | some d' =>
     have : d ≠ d' := fun e => a2 d hd (by rw [hd',e])
     show upd st.loc d' (some c) d = none
     rw [upd,if_neg this]; exact hl
   ·rcases hp.l2 hloud with q | q
    ·rw [q] at k; cases k
    ·rcases kk with ⟨kw,_⟩ | ⟨x,m,rfl⟩
     ·exfalso
      have q2 := q.2
      unfold isCallV at q2
      split at q2
      ·rename_i c hop
       rw [hop] at kw; cases kw
      ·cases q2
     ·exact hl
 ·unfold DTo
  have e1 := valsU_comm (e := ej) (e' := ei) (v := st.vals) (fun t ht => fun h => a2 t h ht : ∀ t,oj.dst = some t → oi.dst ≠ some t)
  have e2 := ownU_comm (tk := tkj) (tk' := tki) (e := ej) (e' := ei) (o := st.own) (fun t ht => fun h => a2 t h ht : ∀ t,oj.dst = some t → oi.dst ≠ some t)
   (fun t ht hd => a1 t hd (htk t ht).2) (fun t ht hd => a3 t hd (h.take t ht).2)
  simp only [e1,e2,St.mk.injEq,true_and]
  rcases ki' with ⟨x,b,rfl⟩ | ⟨li,c,sl,rfl⟩ | ⟨li,hi0,ki'⟩
  ·exact ⟨rfl,rfl⟩
  ·rcases kj' with ⟨x,b,rfl⟩ | ⟨_,c',sl',rfl⟩ | ⟨_,k,kk⟩
   ·exact ⟨rfl,rfl⟩
   ·refine ⟨?_,rfl⟩
    unfold locU
    cases hd : oi.dst with
    | none => cases hd' : oj.dst <;> rfl
    | some d =>
     cases hd' : oj.dst with
     | none => rfl
     | some d' => exact upd_comm fun e => a2 d hd (by rw [hd',e])
   ·rcases hp.l2 (loud_new li) with q | q
    ·rw [q] at k; cases k
    ·rcases kk with ⟨kw,_⟩ | ⟨x,m,rfl⟩
     ·exfalso
      have q2 := q.2
      unfold isCallV at q2
      split at q2
      ·rename_i c hop
       rw [hop] at kw; cases kw
      ·cases q2
     ·exact ⟨rfl,rfl⟩
  ·rcases kj' with ⟨x,b,rfl⟩ | ⟨k,_⟩ | ⟨k,_⟩
   ·exact ⟨rfl,rfl⟩
   ·rw [hp.l1 (loud_new k)] at hi0; cases hi0
   ·rw [hp.l1 (loud_of k)] at hi0; cases hi0
theorem dguard_congr {ops : Array Oper} {o : Oper} {st st' : St} {b : Bool} (hv : ∀ t ∈ o.looksAt ops,st'.vals t = st.vals t) (h : DGuard ops o st b) : DGuard ops o st' b := by
 unfold DGuard at h ⊢
 split at h
 ·exact h
 ·rename_i j want hgu
  split at h
  ·exact h.elim
  ·rename_i d hd
   rw [hv d (looks_guard hgu hd)]
   exact h
theorem vcCallS_mono {f : SV} {xs : List SV} {mem : Mem} {S S' : Option Nat → Eff → Prop} (h : vcCallS E f xs mem S) (hs : ∀ x m,S none (.call x m) → S' none (.call x m)) : vcCallS E f xs mem S' := by
 unfold vcCallS at h ⊢
 split at h
 ·exact h.mono fun r m' => hs r m'
 ·refine ⟨fun G w vs h1 h2 h3 => ?_⟩
  obtain ⟨f,tmps,assign,body,hy,hr⟩ := h.does G w vs h1 h2 h3
  exact ⟨f,tmps,assign,body,hy,hr.mono fun e w' ⟨v,r,m',G',he,hx,hi,hm,hr,hK⟩ => ⟨v,r,m',G',he,hx,hi,hm,hr,hs _ _ hK⟩⟩
 ·exact h.elim
theorem dswap {lin : Nat → Bool} {ops : Array Oper} {oi oj : Oper} {hi hj : Bool} {ki kj : Nat} {st : St} {tki : Option Nat} {ei : Eff} {S : Option Nat → Eff → Prop} (hp : PairOk lin ops oi oj hi hj ki kj) (h : DAct E lin hi ki ops oi st tki ei)
  (h' : DActS E lin hj kj ops oj (DTo oi tki ei st) S) :
  DActS E lin hj kj ops oj st fun tkj ej => S tkj ej ∧ DAct E lin hi ki ops oi (DTo oj tkj ej st) tki ei ∧ DTo oj tkj ej (DTo oi tki ei st) = DTo oi tki ei (DTo oj tkj ej st) := by
 obtain ⟨b1,b2,b3,b4⟩ := dact_back hp h
 rcases h' with ⟨tkj,ej,h',hS⟩ | ⟨k2,hh,hg,c,f,hop,hcf,hlen,h'⟩ | ⟨k2,hh,hg,⟨c,hop⟩,h'⟩
 ·have r1 : DAct E lin hj kj ops oj st tkj ej := dact_move b1 b2 b3 b4 (fun d hd hn hs hl => locU_none hl) h'
  exact .inl ⟨tkj,ej,r1,hS,dact_on hp h r1.take r1.kind fun s hs => r1.store hs⟩
 ·refine .inr (.inl ⟨k2,hh,dguard_congr b1 hg,c,f,hop,hcf,hlen,?_⟩)
  have hsv : ∀ x ∈ oj.op.operands,∀ ty,st.sv E.T ty x = (DTo oi tki ei st).sv E.T ty x := fun x hx ty => sv_congr fun t ht => b1 t (looks_op (ht ▸ hx))
  rw [hsv f (by rw [hop]; simp [Op.operands,Call.operands,hcf]),zip_congr (ρ := st.sv E.T) (ρ' := (DTo oi tki ei st).sv E.T) (fun x hx ty => hsv x (by rw [hop]; simp [Op.operands,Call.operands,hcf]; exact .inr (by simpa using hx)) ty),
   (b3 hh).2]
  refine vcCallS_mono h' fun x m hx => ⟨hx,dact_on hp h (fun t ht => by cases ht) (.inr (.inr ⟨.inr (.inr k2),hh,.inr ⟨_,_,rfl⟩⟩)) (fun s hs => by unfold storesAt at hs; rw [hop] at hs; cases hs)⟩
 ·refine .inr (.inr ⟨k2,hh,dguard_congr b1 hg,⟨c,hop⟩,?_⟩)
  have hsv : ∀ x ∈ oj.op.operands,∀ ty,st.sv E.T ty x = (DTo oi tki ei st).sv E.T ty x := fun x hx ty => sv_congr fun t ht => b1 t (looks_op (ht ▸ hx))
  exact vcAppE_congr hsv (b3 hh).2 h' fun x m hx => ⟨hx,dact_on hp h (fun t ht => by cases ht) (.inr (.inr ⟨.inr (.inr k2),hh,.inr ⟨_,_,rfl⟩⟩)) (fun s hs => by unfold storesAt at hs; rw [hop] at hs; cases hs)⟩
end
end Go.Proofs.Ytikodjpbknneoaa.Abs
/- Statements whose order is open,part 6: one walk in the text's order serves every order. -/
namespace Go.Proofs.Ytikodjpbknneoaa.Abs
set_option linter.unusedSimpArgs false
open Go Go.RowKit
section
variable {E : Env}
def dOp (E : Env) (lin hs : Nat → Bool) (ks : Nat → Nat) (ops : Array Oper) (i : Nat) (K : St → Prop) (st : St) : Prop :=
 match ops[i]? with
 | none => K st
 | some o => DActS E lin (hs i) (ks i) ops o st fun tk e => K (DTo o tk e st)
def dAny (E : Env) (lin hs : Nat → Bool) (ks : Nat → Nat) (ops : Array Oper) (Q : St → Prop) : Nat → Array Bool → St → Prop
 | 0,listed,st => Region.ready .any ops listed = [] ∧ Q st
 | fuel + 1,listed,st => (Region.ready .any ops listed = [] → Q st) ∧ ∀ i ∈ Region.ready .any ops listed,dOp E lin hs ks ops i (dAny E lin hs ks ops Q fuel (listed.setIfInBounds i true)) st
theorem DActS.mono {lin : Nat → Bool} {hide : Bool} {k : Nat} {ops : Array Oper} {o : Oper} {st : St} {S S' : Option Nat → Eff → Prop} (h : DActS E lin hide k ops o st S) (hs : ∀ tk e,S tk e → S' tk e) : DActS E lin hide k ops o st S' := by
 rcases h with ⟨tk,e,h,hS⟩ | ⟨k2,hh,hg,c,f,hop,hcf,hlen,h⟩ | ⟨k2,hh,hg,hop,h⟩
 ·exact .inl ⟨tk,e,h,hs _ _ hS⟩
 ·exact .inr (.inl ⟨k2,hh,hg,c,f,hop,hcf,hlen,vcCallS_mono h fun x m hx => hs _ _ hx⟩)
 ·exact .inr (.inr ⟨k2,hh,hg,hop,vcAppE_congr (fun _ _ _ => rfl) rfl h fun x m hx => hs _ _ hx⟩)
def behind (ops : Array Oper) : Nat → Nat → Nat → Bool
 | 0,_,_ => false
 | n + 1,j,i => match ops[j]? with
  | some oj => oj.after.any fun e => Region.binds .any e && (e.on == i || behind ops n e.on i)
  | none => false
def ClosedL (ops : Array Oper) (listed : Array Bool) : Prop := ∀ (k : Nat) (ok : Oper),ops[k]? = some ok → listed.getD (k) false = true → ∀ e ∈ ok.after,Region.binds .any e = true → listed.getD (e.on) false = true
theorem behind_listed {ops : Array Oper} {listed : Array Bool} (hc : ClosedL ops listed) {i : Nat} : ∀ (n j : Nat),(∀ oj,ops[j]? = some oj → ∀ e ∈ oj.after,Region.binds .any e = true → listed.getD (e.on) false = true) → behind ops n j i = true → listed.getD (i) false = true
 | 0,_,_,h => by simp [behind] at h
 | n + 1,j,ha,h => by
  unfold behind at h
  split at h
  ·rename_i oj hoj
   obtain ⟨e,he,hb⟩ := Array.any_eq_true'.1 h
   simp only [Bool.and_eq_true,Bool.or_eq_true,beq_iff_eq] at hb
   have hl := ha oj hoj e he hb.1
   rcases hb.2 with hb2 | hb2
   ·rw [← hb2]; exact hl
   ·exact behind_listed hc n e.on (fun ok hok => hc e.on ok hok hl) hb2
  ·cases h
theorem ClosedL.set {ops : Array Oper} {listed : Array Bool} (hc : ClosedL ops listed) {j : Nat} (hj : j ∈ Region.ready .any ops listed) : ClosedL ops (listed.setIfInBounds j true) := by
 obtain ⟨_,oj,hoj,hall⟩ := mem_ready.1 hj
 have mono : ∀ k,listed.getD k false = true → (listed.setIfInBounds j true).getD k false = true := fun k hk => by
  by_cases e : j = k
  ·subst e
   have : j < listed.size := by
    rcases Nat.lt_or_ge j listed.size with h | h
    ·exact h
    ·simp [Array.getElem?_eq_none h] at hk
   simp [this]
  ·rw [getD_set_ne false e]; exact hk
 intro k ok hk hl e he hb
 by_cases hkj : k = j
 ·subst hkj
  have hk : ops[k]? = some ok := hk
  rw [hoj] at hk
  injection hk with hk
  subst hk
  exact mono _ (hall e he hb)
 ·rw [getD_set_ne false (fun h => hkj h.symm)] at hl
  exact mono _ (hc k ok hk hl e he hb)
theorem dAny_first {lin hs : Nat → Bool} {ks : Nat → Nat} {ops : Array Oper} {Q : St → Prop} {i : Nat} {oi : Oper} {tki : Option Nat} {ei : Eff} (hi : ops[i]? = some oi) : ∀ (fuel : Nat) (listed : Array Bool) (st : St),ClosedL ops listed →
  (∀ j oj,ops[j]? = some oj → j ≠ i → listed.getD j true = false → behind ops 5 j i = false → PairOk lin ops oi oj (hs i) (hs j) (ks i) (ks j)) →
  i ∈ Region.ready .any ops listed → DAct E lin (hs i) (ks i) ops oi st tki ei → dAny E lin hs ks ops Q fuel (listed.setIfInBounds i true) (DTo oi tki ei st) → dAny E lin hs ks ops Q (fuel + 1) listed st := by
 intro fuel
 have self : ∀ (fuel : Nat) (listed : Array Bool) (st : St),DAct E lin (hs i) (ks i) ops oi st tki ei → dAny E lin hs ks ops Q fuel (listed.setIfInBounds i true) (DTo oi tki ei st) →
   dOp E lin hs ks ops i (dAny E lin hs ks ops Q fuel (listed.setIfInBounds i true)) st := by
  intro fuel listed st h1 h2
  unfold dOp
  rw [hi]
  exact .inl ⟨tki,ei,h1,h2⟩
 induction fuel with
 | zero =>
  intro listed st _ _ hr hy H
  refine ⟨fun h => (by rw [h] at hr; cases hr),fun j hj => ?_⟩
  by_cases hji : j = i
  ·subst hji; exact self _ _ _ hy H
  ·have := ready_mono hj hji
   rw [H.1] at this
   cases this
 | succ fuel ih =>
  intro listed st hcl hfree hr hy H
  refine ⟨fun h => (by rw [h] at hr; cases hr),fun j hj => ?_⟩
  by_cases hji : j = i
  ·subst hji; exact self _ _ _ hy H
  ·have h1 := H.2 j (ready_mono hj hji)
   obtain ⟨hjun,oj,hoj,hall⟩ := mem_ready.1 hj
   have hnot : behind ops 5 j i = false := by
    cases hb : behind ops 5 j i with
    | false => rfl
    | true =>
     have h1 := behind_listed hcl 5 j (fun ok hok => by rw [hoj] at hok; injection hok with hok; subst hok; exact hall) hb
     have h0 := (mem_ready.1 hr).1
     rcases Nat.lt_or_ge i listed.size with h' | h'
     ·simp [h'] at h0 h1; rw [h0] at h1; cases h1
     ·simp [Array.getElem?_eq_none h'] at h1
   have hfree' : ∀ k ok,ops[k]? = some ok → k ≠ i → (listed.setIfInBounds j true).getD k true = false → behind ops 5 k i = false → PairOk lin ops oi ok (hs i) (hs k) (ks i) (ks k) := fun k ok hk hki hun hno => by
    refine hfree k ok hk hki ?_ hno
    by_cases hjk : j = k
    ·subst hjk; exact hjun
    ·rw [getD_set_ne true hjk] at hun; exact hun
   unfold dOp at h1 ⊢
   rw [hoj] at h1 ⊢
   refine (dswap (hfree j oj hoj hji hjun hnot) hy h1).mono ?_
   rintro tkj ej ⟨h3,s2,s3⟩
   refine ih (listed.setIfInBounds j true) _ (hcl.set hj) hfree' (ready_mono hr (Ne.symm hji)) s2 ?_
   rw [Array.setIfInBounds_comm _ _ hji,← s3]
   exact h3
theorem dAny_alone {lin hs : Nat → Bool} {ks : Nat → Nat} {ops : Array Oper} {Q : St → Prop} {i : Nat} (fuel : Nat) (listed : Array Bool) (st : St) (hcl : ClosedL ops listed)
  (hfree : ∀ j oj,ops[j]? = some oj → j ≠ i → listed.getD j true = false → behind ops 5 j i = true) (hr : i ∈ Region.ready .any ops listed)
  (h : dOp E lin hs ks ops i (dAny E lin hs ks ops Q fuel (listed.setIfInBounds i true)) st) : dAny E lin hs ks ops Q (fuel + 1) listed st := by
 refine ⟨fun h => (by rw [h] at hr; cases hr),fun j hj => ?_⟩
 by_cases hji : j = i
 ·subst hji; exact h
 ·obtain ⟨hjun,oj,hoj,hall⟩ := mem_ready.1 hj
  have h1 := behind_listed hcl 5 j (fun ok hok => by rw [hoj] at hok; injection hok with hok; subst hok; exact hall) (hfree j oj hoj hji hjun)
  have h0 := (mem_ready.1 hr).1
  rcases Nat.lt_or_ge i listed.size with h' | h'
  ·simp [h'] at h0 h1; rw [h0] at h1; cases h1
  ·simp [Array.getElem?_eq_none h'] at h1
def calmB (oj : Oper) (kj ki : Nat) : Bool := (!(isWriter oj.op || (kj == 1 || kj == 2)) || (ki != 3 && (Nat.blt ki 4 || (kj != 1 && kj != 2 && storesAt oj (ki - 4))))) && (Nat.blt ki 4 || match oj.dst with | some d => d != ki - 4 | none => true)
theorem calmB_spec {oj : Oper} {kj ki : Nat} (h : calmB oj kj ki = true) : Calm oj kj ki := by
 unfold calmB at h
 rw [Bool.and_eq_true] at h
 obtain ⟨h1,h2⟩ := h
 have hlt : 4 ≤ ki → Nat.blt ki 4 = false := fun q => by
  cases hb : Nat.blt ki 4 with
  | false => rfl
  | true => rw [Nat.blt_eq] at hb; omega
 refine ⟨fun q => ?_,fun q => ?_⟩
 ·have : (isWriter oj.op || (kj == 1 || kj == 2)) = true := by simpa using q
  rw [this,Bool.not_true,Bool.false_or,Bool.and_eq_true] at h1
  refine ⟨by simpa using h1.1,fun q4 => ?_⟩
  have h3 := h1.2
  rw [hlt q4,Bool.false_or] at h3
  simp only [Bool.and_eq_true,bne_iff_ne] at h3
  exact h3
 ·rw [hlt q,Bool.false_or] at h2
  intro e
  rw [e] at h2
  simp at h2
def pairB (lin : Nat → Bool) (ops : Array Oper) (oi oj : Oper) (hi hj : Bool) (ki kj : Nat) : Bool :=
 oi.apart ops oj && (!loud kj oj || hi) && (!loud ki oi || hj || (!isWriter oi.op && (ki != 1 && (ki != 2 && isCallV oj)))) && calmB oj kj ki && calmB oi ki kj && (oi.looksAt ops).all fun t => !lin t || !(oj.looksAt ops).contains t
theorem pairB_spec {lin : Nat → Bool} {ops : Array Oper} {oi oj : Oper} {hi hj : Bool} {ki kj : Nat} (h : pairB lin ops oi oj hi hj ki kj = true) : PairOk lin ops oi oj hi hj ki kj := by
 simp only [pairB,Bool.and_eq_true,List.all_eq_true] at h
 obtain ⟨⟨⟨⟨⟨h1,h2⟩,h3⟩,m1⟩,m2⟩,h4⟩ := h
 simp only [Bool.or_eq_true,Bool.not_eq_true'] at h2 h4
 refine ⟨h1,fun e => ?_,fun e => ?_,calmB_spec m1,calmB_spec m2,fun t ht hi hj => ?_⟩
 ·rcases h2 with h2 | h2
  ·rw [e] at h2; cases h2
  ·exact h2
 ·cases hj0 : hj with
  | true => exact .inl rfl
  | false =>
   rw [e,hj0] at h3
   simp at h3
   exact .inr ⟨⟨h3.1,h3.2.1,h3.2.2.1⟩,h3.2.2.2⟩
 ·rcases h4 t hi with h | h
  ·rw [ht] at h; cases h
  ·simp at h; exact h hj
def freeB (lin hs : Nat → Bool) (ks : Nat → Nat) (ops : Array Oper) (listed : Array Bool) (i : Nat) : Bool :=
 match ops[i]? with
 | none => false
 | some oi => (List.range ops.size).all fun j => j == i || listed.getD j true || match ops[j]? with
   | some oj => (ks i != 2 && pairB lin ops oi oj (hs i) (hs j) (ks i) (ks j)) || behind ops 5 j i
   | none => true
theorem freeB_spec {lin hs : Nat → Bool} {ks : Nat → Nat} {ops : Array Oper} {i : Nat} {oi : Oper} {listed : Array Bool} (hi : ops[i]? = some oi) (h : freeB lin hs ks ops listed i = true) (j : Nat) (oj : Oper)
  (hj : ops[j]? = some oj) (hne : j ≠ i) (hun : listed.getD j true = false) : behind ops 5 j i = true ∨ (ks i ≠ 2 ∧ PairOk lin ops oi oj (hs i) (hs j) (ks i) (ks j)) := by
 simp only [freeB,hi,List.all_eq_true,List.mem_range] at h
 have h1 := h j (Array.getElem?_eq_some_iff.1 hj).1
 simp only [hj,Bool.or_eq_true,beq_iff_eq,hne,false_or,hun,Bool.false_eq_true] at h1
 rcases h1 with h1 | h1
 ·simp only [Bool.and_eq_true,bne_iff_ne] at h1
  exact .inr ⟨h1.1,pairB_spec h1.2⟩
 ·exact .inl h1
def lexD (lin hs : Nat → Bool) (ks : Nat → Nat) (ops : Array Oper) : Nat → Nat → Array Bool → Bool
 | 0,_,listed => (Region.ready .any ops listed).isEmpty
 | fuel + 1,k,listed => (Region.ready .any ops listed).contains k && freeB lin hs ks ops listed k && lexD lin hs ks ops fuel (k + 1) (listed.setIfInBounds k true)
def dLex (E : Env) (lin hs : Nat → Bool) (ks : Nat → Nat) (ops : Array Oper) (Q : St → Prop) : Nat → List Oper → St → Prop
 | _,[],st => Q st
 | i,o :: rest,st => DActS E lin (hs i) (ks i) ops o st fun tk e => dLex E lin hs ks ops Q (i + 1) rest (DTo o tk e st)
theorem dAny_lex {lin hs : Nat → Bool} {ks : Nat → Nat} {ops : Array Oper} {Q : St → Prop} : ∀ (l : List Oper) (k : Nat) (listed : Array Bool) (st : St),(∀ j,l[j]? = ops[k + j]?) → ClosedL ops listed → lexD lin hs ks ops l.length k listed = true →
  dLex E lin hs ks ops Q k l st → dAny E lin hs ks ops Q l.length listed st
 | [],_,_,_,_,_,hB,h => ⟨by simpa [lexD] using hB,h⟩
 | o :: l,k,listed,st,hl,hcl,hB,h => by
  have h0 : ops[k]? = some o := by simpa using (hl 0).symm
  simp only [List.length_cons,lexD,Bool.and_eq_true] at hB
  obtain ⟨⟨hr,hf⟩,hB'⟩ := hB
  have hsp := freeB_spec h0 hf
  have hl' : ∀ j,l[j]? = ops[k + 1 + j]? := fun j => by have := hl (j + 1); simpa [Nat.add_assoc,Nat.add_comm 1 j] using this
  have hr' : k ∈ Region.ready .any ops listed := by simpa using hr
  have hcl' := hcl.set hr'
  by_cases hk2 : ks k = 2
  ·refine dAny_alone l.length listed st hcl (fun j oj hj hne hun => ?_) hr' ?_
   ·rcases hsp j oj hj hne hun with h | ⟨h,_⟩
    ·exact h
    ·exact absurd hk2 h
   ·unfold dOp
    rw [h0]
    exact DActS.mono h fun tk e h => dAny_lex l (k + 1) _ _ hl' hcl' hB' h
  ·rcases h with ⟨tk,e,h1,h2⟩ | ⟨h,_⟩ | ⟨h,_⟩
   ·exact dAny_first h0 l.length listed st hcl (fun j oj hj hne hun hno => by
     rcases hsp j oj hj hne hun with hb | ⟨_,h⟩
     ·rw [hno] at hb; cases hb
     ·exact h) hr' h1 (dAny_lex l (k + 1) _ _ hl' hcl' hB' h2)
   ·exact absurd h hk2
   ·exact absurd h hk2
theorem wpAny_of_dAny (hE : EnvOk E) {r : Option Nat} {lin hs : Nat → Bool} {ks : Nat → Nat} {ops : Array Oper} {n : Nat} (hd : ops.toList.all (dstOk n) = true) {K : St → Prop} {Q : Exit → Act → World → Prop} {G0 : Gh} {w0 : World}
  (hQ : ∀ a w G st,Ext G0 w0 G w → Inv G w → FRel G w a st → a.tmps.size = n → K st → Q .normal a w) : ∀ (fuel : Nat) (listed : Array Bool) (st : St) (G : Gh) (w : World) (a : Act),Ext G0 w0 G w → Inv G w → FRel G w a st → a.tmps.size = n →
  dAny E lin hs ks ops K fuel listed st → wpAnyIn (fen r) 0 E.P .any ops Q fuel listed a w
 | 0,_,_,_,_,_,hx,hi,hf,hs,h => ⟨h.1,hQ _ _ _ _ hx hi hf hs h.2⟩
 | fuel + 1,listed,st,G,w,a,hx,hi,hf,hs,h => by
  refine ⟨fun e => hQ _ _ _ _ hx hi hf hs (h.1 e),fun i hr => ?_⟩
  have h1 := h.2 i hr
  unfold dOp at h1
  unfold wpOpIn
  split
  ·rename_i hn
   rw [hn] at h1
   exact wpAny_of_dAny hE hd hQ fuel _ _ G w a hx hi hf hs h1
  ·rename_i o ho
   rw [ho] at h1
   have hdo : dstOk n o = true := List.all_eq_true.1 hd o (by have := Array.mem_of_getElem? ho; simpa using this)
   exact dacts_sound hE h1 hi hf hs hdo fun tk e h3 a' w' G' hx' hi' hf' hs' => wpAny_of_dAny hE hd hQ fuel _ _ G' w' a' (hx.trans hx') hi' hf' hs' h3
/-! ### As conditions -/
def VPure (P : Program) (g : FuncId) (xs : List AV) (h : Bool) (m : Mem) (K : AV → Prop) (_t : Tag K) : Prop := ∃ r,LCall P g xs h m r ∧ K r
def vcCallD (E : Env) (h : Bool) (m : Mem) (f : SV) (xs : List SV) (K : AV → Prop) : Prop :=
 match f,avs xs with
 | .v (.fn (.func g) first caps),some ys => VPure E.P g (first ++ ys ++ caps) h m K .mk
 | _,_ => False
def vcTk (t : Option Operand) (l : Bool) : Prop := match t with
 | some (.tmp _) => l = true
 | _ => True
def vcNew (st : St) (d : Option Tmp) (e : Eff) : Prop := match e,d with
 | .new _ _,some d => st.loc d = none
 | _,_ => True
structure Fl where
 h : Bool
 l : Bool
 k : Nat
def VTold (P : Program) (g : FuncId) (xs : List AV) (m : Mem) (K : AV → Mem → Prop) (_t : Tag K) : Prop := ∃ r m1,ACall P g xs m (fun r' m' => r' = r ∧ m' = m1) ∧ K r m1
def vcCallT (E : Env) (f : SV) (xs : List SV) (m : Mem) (K : AV → Mem → Prop) : Prop :=
 match f,avs xs with
 | .v (.fn (.func g) first caps),some ys => VTold E.P g (first ++ ys ++ caps) m K .mk
 | _,_ => False
def vcOpD (E : Env) (o : Oper) (h l : Bool) (k : Nat) (K : St → Prop) (st : St) : Prop :=
 match o.op with
 | .call c => match c.callee with
  | .value f => c.argTypes.toList.length = c.args.toList.length ∧ match k with
   | 0 => vcCallD E h st.mem (st.sv E.T 0 f) ((c.argTypes.toList.zip c.args.toList).map fun p => st.sv E.T p.1 p.2) fun r => K (st.put o.dst (.v r) false)
   | 1 => h = false ∧ vcCallT E (st.sv E.T 0 f) ((c.argTypes.toList.zip c.args.toList).map fun p => st.sv E.T p.1 p.2) st.mem fun r m' => K ({ st with mem := m' }.put o.dst (.v r) false)
   | 2 => h = false ∧ vcCall E (st.sv E.T 0 f) ((c.argTypes.toList.zip c.args.toList).map fun p => st.sv E.T p.1 p.2) o.dst K st
   | _ => False
  | _ => if k = 2 then h = false ∧ vcAppE E o st fun e => K (st.eff o.dst e) else vcTk (takes o) l ∧ evD E o (st.sv E.T) st.ow (if h then noneF else st.loc) (if h then (if k = 0 then noneF else hidM o k st) else st.mem) fun e => vcNew st o.dst e ∧ K ((st.takeO (takes o)).eff o.dst e)
 | .move x | .assign x => if l = true then K ((st.take x).put o.dst (st.sv E.T o.type x) (st.ow x && isSlice (st.sv E.T o.type x))) else K (st.put o.dst (st.sv E.T o.type x) false)
 | _ => evD E o (st.sv E.T) st.ow (if h then noneF else st.loc) (if h then (if k = 0 then noneF else hidM o k st) else st.mem) fun e => vcNew st o.dst e ∧ K (st.eff o.dst e)
def vcOpsD (E : Env) (ops : Array Oper) : List Fl → List Oper → (St → Prop) → St → Prop
 | _,[],K,st => K st
 | ⟨h,l,k⟩ :: fl,o :: rest,K,st => vcGuard ops o.guard (vcOpD E o h l k (vcOpsD E ops fl rest K)) (fun st => vcOpsD E ops fl rest K (st.put o.dst undefS false)) st
 | [],_,_,_ => False
def linOf : List Fl → List Oper → Nat → Bool
 | ⟨_,l,_⟩ :: fl,o :: rest,t => (l && (match takes o with | some (.tmp k) => k == t | _ => false)) || linOf fl rest t
 | _,_,_ => false
def hsOf (fl : List Fl) (i : Nat) : Bool := (fl.getD i ⟨false,false,0⟩).h
def ksOf (fl : List Fl) (i : Nat) : Nat := (fl.getD i ⟨false,false,0⟩).k
theorem vcOpD_sound {lin : Nat → Bool} {ops : Array Oper} {o : Oper} {h l : Bool} {k : Nat} (hl : l = true → ∀ t,takes o = some (.tmp t) → lin t = true) {K : St → Prop} {st : St} (hg : DGuard ops o st true) (hv : vcOpD E o h l k K st) :
  DActS E lin h k ops o st fun tk e => K (DTo o tk e st) := by
 have plain : ∀ K : Eff → Prop,vcTk (takes o) l → evD E o (st.sv E.T) st.ow (if h then noneF else st.loc) (if h then (if k = 0 then noneF else hidM o k st) else st.mem) K → (∀ e,K e → vcNew st o.dst e ∧ ∃ K',K' = True) →
   ∃ tk e,DAct E lin h k ops o st tk e ∧ K e ∧ DTo o tk e st = (st.takeO (takes o)).eff o.dst e := by
  intro K ht hv hk
  obtain ⟨e,h1,h2,h3⟩ := evD_some hv
  have hn : ∀ d,o.dst = some d → (∃ cells sl,e = .new cells sl) → st.loc d = none := by
   rintro d hd ⟨c,sl,rfl⟩
   have := (hk _ h2).1
   rw [hd] at this
   exact this
  cases htk : takes o with
  | none => exact ⟨none,e,.inl ⟨hg,.inl ⟨h1,h3,by rw [htk],hn⟩⟩,h2,by rw [DTo_eff]; rfl⟩
  | some x =>
   cases x with
   | tmp t =>
    rw [htk] at ht
    exact ⟨some t,e,.inl ⟨hg,.inl ⟨h1,h3,by rw [htk]; exact ⟨hl ht t htk,rfl⟩,hn⟩⟩,h2,by rw [DTo_eff]; rfl⟩
   | _ => exact ⟨none,e,.inl ⟨hg,.inl ⟨h1,h3,by rw [htk],hn⟩⟩,h2,by rw [DTo_eff]; rfl⟩
 have plain' : vcTk (takes o) l → evD E o (st.sv E.T) st.ow (if h then noneF else st.loc) (if h then (if k = 0 then noneF else hidM o k st) else st.mem) (fun e => vcNew st o.dst e ∧ K ((st.takeO (takes o)).eff o.dst e)) → ∃ tk e,DAct E lin h k ops o st tk e ∧ K (DTo o tk e st) := by
  intro ht hv
  obtain ⟨tk,e,h1,h2,h3⟩ := plain _ ht hv fun e h => ⟨h.1,_,rfl⟩
  exact ⟨tk,e,h1,by rw [h3]; exact h2.2⟩
 have mv : ∀ x,(o.op = .move x ∨ o.op = .assign x) → (if l = true then K ((st.take x).put o.dst (st.sv E.T o.type x) (st.ow x && isSlice (st.sv E.T o.type x))) else K (st.put o.dst (st.sv E.T o.type x) false)) →
   ∃ tk e,DAct E lin h k ops o st tk e ∧ K (DTo o tk e st) := by
  intro x hx hv
  split at hv
  ·rename_i hlt
   have htk : takes o = some x := by unfold takes; rcases hx with hx | hx <;> rw [hx]
   obtain ⟨tk,e,h1,h2,h3⟩ := plain (fun e => e = .put (st.sv E.T o.type x) (st.ow x && isSlice (st.sv E.T o.type x))) (by rw [htk]; unfold vcTk; split <;> first | exact hlt | trivial)
    (by unfold evD ev; rcases hx with hx | hx <;> rw [hx]) (fun e he => by subst he; exact ⟨trivial,_,rfl⟩)
   subst h2
   refine ⟨tk,_,h1,?_⟩
   rw [h3,htk]
   exact hv
  ·exact ⟨none,_,.inl ⟨hg,.inr (.inl ⟨x,hx,rfl,rfl⟩)⟩,by rw [DTo_eff]; exact hv⟩
 unfold vcOpD at hv
 split at hv
 ·rename_i c hop
  split at hv
  ·rename_i f hcf
   obtain ⟨hlen,hv⟩ := hv
   split at hv
   ·unfold vcCallD at hv
    split at hv
    ·rename_i g first caps ys hfe hys
     obtain ⟨r,hp,hk⟩ := hv
     exact .inl ⟨none,_,.inl ⟨hg,.inr (.inr (.inl ⟨c,f,g,first,caps,ys,r,hop,hcf,hlen,hfe,hys,hp,rfl,rfl⟩))⟩,by show K (DTo _ _ _ _); rw [DTo_eff]; exact hk⟩
    ·exact hv.elim
   ·obtain ⟨hh,hv⟩ := hv
    unfold vcCallT at hv
    split at hv
    ·rename_i g first caps ys hfe hys
     obtain ⟨r,m1,hp,hk⟩ := hv
     exact .inl ⟨none,_,.inl ⟨hg,.inr (.inr (.inr ⟨rfl,hh,c,f,g,first,caps,ys,r,m1,hop,hcf,hlen,hfe,hys,hp,rfl,rfl⟩))⟩,by show K (DTo _ _ _ _); rw [DTo_eff]; exact hk⟩
    ·exact hv.elim
   ·obtain ⟨hh,hv⟩ := hv
    refine .inr (.inl ⟨rfl,hh,hg,c,f,hop,hcf,hlen,?_⟩)
    unfold vcCall at hv
    unfold vcCallS
    split at hv
    ·rename_i g first caps ys hfe hys
     rw [hfe,hys]
     exact hv.mono fun r m' hk => by show K (DTo _ _ _ _); rw [DTo_eff]; exact hk
    ·rename_i l first caps ys hfe hys
     rw [hfe,hys]
     refine ⟨fun G w vs h1 h2 h3 => ?_⟩
     obtain ⟨f,tmps,assign,body,hy,hr⟩ := hv.does G w vs h1 h2 h3
     exact ⟨f,tmps,assign,body,hy,hr.mono fun e w' ⟨v,r,m',G',he,hx,hi,hm,hr,hK⟩ => ⟨v,r,m',G',he,hx,hi,hm,hr,by show K (DTo _ _ _ _); rw [DTo_eff]; exact hK⟩⟩
    ·exact hv.elim
   ·exact hv.elim
  ·split at hv
   ·rename_i hk2
    obtain ⟨hh,hv⟩ := hv
    exact .inr (.inr ⟨hk2,hh,hg,⟨c,hop⟩,vcAppE_congr (fun _ _ _ => rfl) rfl hv fun x m hx => by show K (DTo _ _ _ _); rw [DTo_eff]; exact hx⟩)
   ·exact .inl (plain' hv.1 hv.2)
 ·rename_i x hop; exact .inl (mv x (.inl hop) hv)
 ·rename_i x hop; exact .inl (mv x (.inr hop) hv)
 ·rename_i n1 n2 n3
  have htk : takes o = none := by
   unfold takes
   split
   ·rename_i x hop; exact absurd hop (n2 x)
   ·rename_i x hop; exact absurd hop (n3 x)
   ·rename_i c hop; exact absurd hop (n1 c)
   ·rfl
  refine .inl (plain' (by rw [htk]; trivial) ?_)
  rw [htk]; exact hv
theorem vcOpsD_sound {ops : Array Oper} {fl0 : List Fl} {lin : Nat → Bool} {K : St → Prop} : ∀ (l : List Oper) (fl : List Fl) (k : Nat) (st : St),(∀ j,fl.getD j ⟨false,false,0⟩ = fl0.getD (k + j) ⟨false,false,0⟩) →
  (∀ t,linOf fl l t = true → lin t = true) → vcOpsD E ops fl l K st → dLex E lin (hsOf fl0) (ksOf fl0) ops K k l st
 | [],_,_,_,_,_,h => by unfold vcOpsD at h; exact h
 | o :: l,[],_,_,_,_,h => by unfold vcOpsD at h; exact h.elim
 | o :: l,⟨hd,lt,kk⟩ :: fl,k,st,hfl,hlin,h => by
  have e0 : hsOf fl0 k = hd := by have := hfl 0; rw [Nat.add_zero] at this; unfold hsOf; rw [← this]; rfl
  have e1 : ksOf fl0 k = kk := by have := hfl 0; rw [Nat.add_zero] at this; unfold ksOf; rw [← this]; rfl
  have hfl' : ∀ j,fl.getD j ⟨false,false,0⟩ = fl0.getD (k + 1 + j) ⟨false,false,0⟩ := fun j => by have := hfl (j + 1); simpa [Nat.add_assoc,Nat.add_comm 1 j] using this
  have hlin' : ∀ t,linOf fl l t = true → lin t = true := fun t ht => hlin t (by simp [linOf,ht])
  have hl : lt = true → ∀ t,takes o = some (.tmp t) → lin t = true := fun e t ht => hlin t (by simp [linOf,ht,e])
  unfold dLex
  rw [e0,e1]
  have yes : ∀ st,DGuard ops o st true → vcOpD E o hd lt kk (vcOpsD E ops fl l K) st → DActS E lin hd kk ops o st fun tk e => dLex E lin (hsOf fl0) (ksOf fl0) ops K (k + 1) l (DTo o tk e st) := by
   intro st hg hv
   exact (vcOpD_sound (lin := lin) hl hg hv).mono fun tk e h2 => vcOpsD_sound l fl (k + 1) _ hfl' hlin' h2
  have no : ∀ st,DGuard ops o st false → vcOpsD E ops fl l K (st.put o.dst undefS false) → DActS E lin hd kk ops o st fun tk e => dLex E lin (hsOf fl0) (ksOf fl0) ops K (k + 1) l (DTo o tk e st) := by
   intro st hg hv
   exact .inl ⟨none,_,.inr ⟨hg,rfl,rfl⟩,by show dLex _ _ _ _ _ _ _ _ (DTo _ _ _ _); rw [DTo_eff]; exact vcOpsD_sound l fl (k + 1) _ hfl' hlin' hv⟩
  unfold vcOpsD vcGuard at h
  split at h
  ·rename_i hg
   exact yes st (by unfold DGuard; rw [hg]) h
  ·rename_i j want hg
   split at h
   ·exact h.elim
   ·rename_i d hj
    split at h
    ·rename_i b hb
     rw [ite_both] at h
     by_cases e : b = want
     ·subst e
      have h1 := h.1 rfl
      rw [show ({ st with vals := upd st.vals d (.v (.bool b)) } : St) = st by rw [← hb,upd_self]] at h1
      exact yes st (by unfold DGuard; rw [hg]; simp only; rw [hj]; simp only; rw [hb]; simp) h1
     ·have e' : b = !want := by cases b <;> cases want <;> simp_all
      have h2 := h.2 e'
      rw [show ({ st with vals := upd st.vals d (.v (.bool !want)) } : St) = st by rw [← e',← hb,upd_self]] at h2
      refine no st ?_ h2
      have hbw : ∀ b want : Bool,b = !want → false = (b == want) := by decide
      unfold DGuard; rw [hg]; simp only; rw [hj]; simp only; rw [hb]
      exact hbw b want e'
    ·rename_i hb
     exact no st (by unfold DGuard; rw [hg]; simp only; rw [hj]; simp only; rw [hb]; trivial) h
    ·exact h.elim
theorem Inv.drew {G : Gh} {w : World} (h : Inv G w) : Inv G { w with drawn := w.drawn + 1 } := ⟨Below.drew h.below,h.com,h.lock⟩
theorem Rep.drew {com : Nat → Nat} {w : World} {x : AV} {v : Value} (h : Rep com w x v) : Rep com { w with drawn := w.drawn + 1 } x v := Rep.mono (com := com) (com' := com) (w := w) (w' := { w with drawn := w.drawn + 1 }) (fun _ => Nat.le_refl _) (fun _ _ _ => rfl) h
theorem BoxRep.drew {com : Nat → Nat} {w : World} {b : Nat} {x : Box} (h : BoxRep com w b x) : BoxRep com { w with drawn := w.drawn + 1 } b x := by
 cases x with
 | cells l => obtain ⟨cs,e,h1,h2,h3⟩ := h; exact ⟨cs,e,h1,h2,fun i x v a b => (h3 i x v a b).drew⟩
 | map kv =>
  obtain ⟨es,clock,h1,h2,h3⟩ := h
  exact ⟨es,clock,h1,h2,fun i k x m hk hm => ⟨(h3 i k x m hk hm).1.drew,(h3 i k x m hk hm).2.drew⟩⟩
 | iter s pos => exact h
 | loop s j r =>
  obtain ⟨fn,tmps,d,h1,h2,h3⟩ := h
  exact ⟨fn,tmps,d,h1,h2,fun i => (h3 i).drew⟩
theorem FRel.drew {G : Gh} {w : World} {a : Act} {st : St} (h : FRel G w a st) : FRel G { w with drawn := w.drawn + 1 } a st := by
 obtain ⟨β,R,h⟩ := h
 refine ⟨β,R,h.defers.ext rfl (Nat.le_refl _) (fun _ h => h) (fun _ _ => rfl),fun s => ?_,h.own,fun i l hl => ?_,h.ref,fun b x hx => ?_,h.rmem,h.rlt⟩
 ·have := h.vals s
  generalize st.vals s = x at this ⊢
  cases x with
  | v x => exact Rep.drew this
  | _ => exact this
 ·obtain ⟨⟨h1,h2,h3,h4⟩,h5⟩ := h.loc i l hl
  exact ⟨⟨h1,h2,h3,h4.drew⟩,h5⟩
 ·obtain ⟨h1,h2,h3,h4,h5⟩ := h.mem b x hx
  exact ⟨h1,h2,h3,h4,h5.drew⟩
def drawOk (fl : List Fl) (ops : Array Oper) : Bool := lexD (linOf fl ops.toList) (hsOf fl) (ksOf fl) ops ops.size 0 (Array.replicate ops.size false)
theorem adraw (hE : EnvOk E) (hm : E.P.follows .mixedOrders = true) (fl : List Fl) {ops : Array Oper} (hok : drawOk fl ops = true) {n : Nat} {K : St → Prop} {st : St} (h : vcOpsD E ops fl ops.toList K st) : ADraw E n ops K st .mk := by
 refine ⟨fun hd id r _ G w a hi hf hs => ?_⟩
 refine wpIn_region_any hm ?_
 have hl := vcOpsD_sound (fl0 := fl) (lin := linOf fl ops.toList) (K := K) ops.toList fl 0 st (by simp) (fun t ht => ht) h
 have ha := dAny_lex (E := E) ops.toList 0 (Array.replicate ops.size false) st (by simp) (fun k ok _ hl => by rw [Array.getD_eq_getD_getElem?,Array.getElem?_replicate] at hl; split at hl <;> cases hl) (by simpa [drawOk] using hok) hl
 have hx : Ext G w G { w with drawn := w.drawn + 1 } := ⟨rfl,rfl,Nat.le_refl _,fun _ => Nat.le_refl _,fun _ _ _ => rfl,fun _ _ => ⟨rfl,rfl⟩⟩
 have := wpAny_of_dAny hE (r := r) (Q := fun e a' w' => Sat n G w (fun e st' => e = .normal ∧ K st') e a' w') hd (fun a' w' G' st' hx' hi' hf' hs' hk => ⟨G',st',hx'.toL,hi',hf',hs',rfl,hk⟩) ops.toList.length _ _ G _ a hx
  ?_ ?_ hs ha
 ·simpa using this
 ·exact hi.drew
 ·exact hf.drew
end
end Go.Proofs.Ytikodjpbknneoaa.Abs
/- The abstract machine,part 27: long statements whose order is open and in which nothing is written: a quick check. -/
namespace Go.Proofs.Ytikodjpbknneoaa.Abs
set_option linter.unusedSimpArgs false
open Go Go.RowKit
structure QRec where
  dst : Option Nat
  looks : List Nat
  after : List Nat
def qrec (dsts : List (Option Nat)) (o : Oper) : QRec where
  dst := o.dst
  looks := (o.op.operands.toList.filterMap fun | .tmp t => some t | _ => none) ++ (match o.guard with
    | some (g,_) => ((dsts[g]?).bind id).toList
    | none => [])
  after := (o.after.toList.filter (Region.binds .any)).map (·.on)
def apartQ (x y : QRec) : Bool :=
  (match x.dst with
   | some d => !y.looks.contains d && y.dst != some d
   | none => true) &&
  (match y.dst with
   | some d => !x.looks.contains d
   | none => true)
def pairQ (i : Nat) (x y : QRec) : Bool := y.after.contains i || apartQ x y
def qGo : List QRec → Nat → List (Nat × QRec) → Bool
  | [],_,_ => true
  | x :: r,k,prev => x.after.all (fun j => Nat.blt j k) && prev.all (fun p => pairQ p.1 p.2 x) && qGo r (k + 1) ((k,x) :: prev)
def quiet (o : Oper) : Bool := !isWriter o.op && !isNewer o.op
def qOk (ops : Array Oper) : Bool := ops.toList.all quiet && qGo (ops.toList.map (qrec (ops.toList.map (·.dst)))) 0 []
theorem qGo_spec : ∀ (r : List QRec) (k : Nat) (prev : List (Nat × QRec)),qGo r k prev = true → ∀ j y,r[j]? = some y →
    (∀ p ∈ prev,pairQ p.1 p.2 y = true) ∧ (∀ i x,i < j → r[i]? = some x → pairQ (k + i) x y = true) ∧ ∀ t ∈ y.after,t < k + j
  | [],_,_,_,j,y,h => by simp at h
  | x :: r,k,prev,h,j,y,hy => by
    unfold qGo at h
    simp only [Bool.and_eq_true,List.all_eq_true] at h
    obtain ⟨⟨h1,h2⟩,h3⟩ := h
    cases j with
    | zero =>
      simp at hy
      subst hy
      refine ⟨fun p hp => h2 p hp,fun i x hi => absurd hi (Nat.not_lt_zero _),fun t ht => ?_⟩
      have := h1 t ht
      rw [Nat.blt_eq] at this
      omega
    | succ j =>
      have ih := qGo_spec r (k + 1) ((k,x) :: prev) h3 j y (by simpa using hy)
      obtain ⟨i1,i2,i3⟩ := ih
      refine ⟨fun p hp => i1 p (by simp [hp]),fun i z hi hz => ?_,fun t ht => by have := i3 t ht; omega⟩
      cases i with
      | zero =>
        simp at hz
        subst hz
        exact i1 (k,x) (by simp)
      | succ i =>
        have := i2 i z (by omega) (by simpa using hz)
        rw [show k + (i + 1) = k + 1 + i by omega]; exact this
theorem apartQ_is {ops : Array Oper} {x y : Oper} : apartQ (qrec (ops.toList.map (·.dst)) x) (qrec (ops.toList.map (·.dst)) y) = x.apart ops y := by
  have hl : ∀ o : Oper,(qrec (ops.toList.map (·.dst)) o).looks = o.looksAt ops := fun o => by
    unfold qrec Oper.looksAt
    simp only
    congr 1
    cases o.guard with
    | none => rfl
    | some g =>
      obtain ⟨g,b⟩ := g
      simp only
      rw [List.getElem?_map,Array.getElem?_toList]
      cases ops[g]? <;> rfl
  unfold apartQ Oper.apart
  rw [hl,hl]
  rfl
section
variable {E : Env}
theorem dAny_quiet {hs : Nat → Bool} {ops : Array Oper} {Q : St → Prop} (hq : qOk ops = true) : ∀ (l : List Oper) (k : Nat) (listed : Array Bool) (st : St),(∀ j,l[j]? = ops[k + j]?) → listed.size = ops.size → (∀ i,i < ops.size → listed.getD i true = decide (i < k)) →
    dLex E (fun _ => false) hs (fun _ => 0) ops Q k l st → dAny E (fun _ => false) hs (fun _ => 0) ops Q l.length listed st
  | [],k,listed,st,hl,hsz,hL,h => by
    refine ⟨?_,h⟩
    have hk : ops.size ≤ k := by
      have := hl 0
      simp at this
      omega
    apply List.eq_nil_iff_forall_not_mem.2
    intro j hj
    obtain ⟨h1,o,h2,_⟩ := mem_ready.1 hj
    have hjs : j < ops.size := (Array.getElem?_eq_some_iff.1 h2).1
    rw [hL j hjs] at h1
    have := of_decide_eq_false h1
    omega
  | o :: l,k,listed,st,hl,hsz,hL,h => by
    have h0 : ops[k]? = some o := by simpa using (hl 0).symm
    have hks : k < ops.size := (Array.getElem?_eq_some_iff.1 h0).1
    have hl' : ∀ j,l[j]? = ops[k + 1 + j]? := fun j => by have := hl (j + 1); simpa [Nat.add_assoc,Nat.add_comm 1 j] using this
    unfold qOk at hq
    rw [Bool.and_eq_true,List.all_eq_true] at hq
    obtain ⟨q1,q2⟩ := hq
    have spec := fun (j : Nat) (oj : Oper) (hj : ops[j]? = some oj) => qGo_spec _ _ _ q2 j (qrec (ops.toList.map (·.dst)) oj) (by rw [List.getElem?_map,Array.getElem?_toList,hj]; rfl)
    have edge : ∀ (j : Nat) (oj : Oper),ops[j]? = some oj → ∀ e ∈ oj.after,Region.binds .any e = true → e.on < j := fun j oj hj e he hb => by
      have := (spec j oj hj).2.2 e.on (by
        unfold qrec
        simp only [List.mem_map,List.mem_filter]
        exact ⟨e,⟨by simpa using he,hb⟩,rfl⟩)
      omega
    have qt : ∀ (j : Nat) (oj : Oper),ops[j]? = some oj → loud 0 oj = false := fun j oj hj => by
      have := q1 oj (by simpa using Array.mem_of_getElem? hj)
      unfold quiet at this
      unfold loud
      simp only [Bool.and_eq_true,Bool.not_eq_true'] at this
      rw [this.1,this.2]; rfl
    have hr' : k ∈ Region.ready .any ops listed := by
      refine mem_ready.2 ⟨by rw [hL k hks]; simp,o,h0,fun e he hb => ?_⟩
      have h1 := edge k o h0 e he hb
      have h2 := hL e.on (by omega)
      rw [decide_eq_true h1] at h2
      rw [Array.getD_eq_getD_getElem?] at h2 ⊢
      rw [Array.getElem?_eq_getElem (show e.on < listed.size by omega)] at h2 ⊢
      exact h2
    have hcl : ClosedL ops listed := by
      intro i oi hoi hli e he hb
      have h1 := edge i oi hoi e he hb
      have his : i < ops.size := (Array.getElem?_eq_some_iff.1 hoi).1
      have h3 := hL i his
      have hgi : listed.getD i true = listed.getD i false := by
        rw [Array.getD_eq_getD_getElem?,Array.getD_eq_getD_getElem?,Array.getElem?_eq_getElem (show i < listed.size by omega)]; rfl
      rw [hgi,hli] at h3
      have h3 := of_decide_eq_true h3.symm
      have h2 := hL e.on (by omega)
      rw [decide_eq_true (show e.on < k by omega)] at h2
      rw [Array.getD_eq_getD_getElem?] at h2 ⊢
      rw [Array.getElem?_eq_getElem (show e.on < listed.size by omega)] at h2 ⊢
      exact h2
    rcases h with ⟨tk,e,h1,h2⟩ | ⟨h,_⟩ | ⟨h,_⟩
    · refine dAny_first h0 l.length listed st hcl (fun j oj hj hne hun hno => ?_) hr' h1 ?_
      · have hjs : j < ops.size := (Array.getElem?_eq_some_iff.1 hj).1
        rw [hL j hjs] at hun
        have hkj : k < j := by have := of_decide_eq_false hun; omega
        have hp := (spec j oj hj).2.1 k (qrec (ops.toList.map (·.dst)) o) hkj (by rw [List.getElem?_map,Array.getElem?_toList,h0]; rfl)
        rw [Nat.zero_add] at hp
        unfold pairQ at hp
        rw [Bool.or_eq_true] at hp
        rcases hp with hp | hp
        · exfalso
          have hm : k ∈ (qrec (ops.toList.map (·.dst)) oj).after := by simpa using hp
          unfold qrec at hm
          simp only [List.mem_map,List.mem_filter] at hm
          obtain ⟨e,⟨he,hb⟩,hon⟩ := hm
          have : behind ops 5 j k = true := by
            unfold behind
            rw [hj]
            exact Array.any_eq_true'.2 ⟨e,by simpa using he,by rw [hb,hon]; simp⟩
          rw [this] at hno; cases hno
        · rw [apartQ_is] at hp
          refine ⟨hp,fun e => (by rw [qt j oj hj] at e; cases e),fun e => (by rw [qt k o h0] at e; cases e),?_,?_,fun t ht => (by cases ht)⟩
          · refine ⟨fun q => ?_,fun q => by omega⟩
            exfalso
            have := loud_of (k := 0) (o := oj) (by rcases q with q | q | q; exact .inl q; exact absurd q (by decide); exact absurd q (by decide))
            rw [qt j oj hj] at this; cases this
          · refine ⟨fun q => ?_,fun q => by omega⟩
            exfalso
            have := loud_of (k := 0) (o := o) (by rcases q with q | q | q; exact .inl q; exact absurd q (by decide); exact absurd q (by decide))
            rw [qt k o h0] at this; cases this
      · refine dAny_quiet (by unfold qOk; rw [Bool.and_eq_true,List.all_eq_true]; exact ⟨q1,q2⟩) l (k + 1) _ _ hl' (by simpa using hsz) (fun i hi => ?_) h2
        by_cases e : k = i
        · subst e
          rw [Array.getD_eq_getD_getElem?,Array.getElem?_setIfInBounds_self_of_lt (by omega)]
          simp
        · rw [getD_set_ne true e,hL i hi,decide_eq_decide]
          omega
    · exact absurd h (by simp)
    · exact absurd h (by simp)
theorem linOf_none : ∀ (n : Nat) (l : List Oper) (t : Nat),linOf (List.replicate n ⟨false,false,0⟩) l t = false
  | 0,l,t => by cases l <;> rfl
  | n + 1,[],t => by rw [List.replicate_succ]; rfl
  | n + 1,o :: l,t => by rw [List.replicate_succ]; unfold linOf; rw [linOf_none n l t]; rfl
theorem repl_getD (n i : Nat) : (List.replicate n (⟨false,false,0⟩ : Fl)).getD i ⟨false,false,0⟩ = ⟨false,false,0⟩ := by
  rw [List.getD_eq_getElem?_getD,List.getElem?_replicate]
  split <;> rfl
theorem adrawQ (hE : EnvOk E) (hm : E.P.follows .mixedOrders = true) {ops : Array Oper} (hok : qOk ops = true) {n : Nat} {K : St → Prop} {st : St} (m : Nat)
    (h : vcOpsD E ops (List.replicate m ⟨false,false,0⟩) ops.toList K st) : ADraw E n ops K st .mk := by
  refine ⟨fun hd id r _ G w a hi hf hs => ?_⟩
  refine wpIn_region_any hm ?_
  have hl := vcOpsD_sound (fl0 := List.replicate m ⟨false,false,0⟩) (lin := fun _ => false) (K := K) ops.toList (List.replicate m ⟨false,false,0⟩) 0 st (by simp) (fun t ht => by rw [linOf_none] at ht; cases ht) h
  have e1 : hsOf (List.replicate m ⟨false,false,0⟩) = fun _ => false := by funext i; unfold hsOf; rw [repl_getD]
  have e2 : ksOf (List.replicate m ⟨false,false,0⟩) = fun _ => 0 := by funext i; unfold ksOf; rw [repl_getD]
  rw [e1,e2] at hl
  have ha := dAny_quiet (E := E) hok ops.toList 0 (Array.replicate ops.size false) st (by simp) (by simp) (fun i hi => by
    rw [Array.getD_eq_getD_getElem?,Array.getElem?_replicate,if_pos hi]; simp) hl
  have hx : Ext G w G { w with drawn := w.drawn + 1 } := ⟨rfl,rfl,Nat.le_refl _,fun _ => Nat.le_refl _,fun _ _ _ => rfl,fun _ _ => ⟨rfl,rfl⟩⟩
  have := wpAny_of_dAny hE (r := r) (Q := fun e a' w' => Sat n G w (fun e st' => e = .normal ∧ K st') e a' w') hd (fun a' w' G' st' hx' hi' hf' hs' hk => ⟨G',st',hx'.toL,hi',hf',hs',rfl,hk⟩) ops.toList.length _ _ G _ a hx
    ?_ ?_ hs ha
  · simpa using this
  · exact hi.drew
  · exact hf.drew
end
end Go.Proofs.Ytikodjpbknneoaa.Abs
/- The abstract machine,part 28: differences that wrap around. -/
namespace Go.Proofs.Ytikodjpbknneoaa.Abs
set_option linter.unusedSimpArgs false
open Go Go.RowKit
section
variable {E : Env} {G : Gh} {w : World} {a : Act} {st : St} {n : Nat}
end
end Go.Proofs.Ytikodjpbknneoaa.Abs
/- The abstract machine,part 29: variables of one's own that never change from a loop on. -/
namespace Go.Proofs.Ytikodjpbknneoaa.Abs
set_option linter.unusedSimpArgs false
open Go Go.RowKit
section
variable {E : Env} {st : St} {n : Nat}
theorem ALoop.freeze (i : Nat) {body : Code} {K : Exit → St → Prop} (h : ALoop E n body K (st.freeze i) .mk) : ALoop E n body K st .mk := by
 refine ⟨fun hc r hr G w a hi ⟨β,R,hf⟩ hs => ?_⟩
 obtain ⟨G',R',x,i',f'⟩ := freeze_sound hi hf i
 refine wpIn_mono (h.does hc r hr G' w a i' ⟨β,R',f'⟩ hs) fun e a' w' q => ?_
 obtain ⟨G2,st2,x2,q⟩ := q
 exact ⟨G2,st2,x.toL.trans x2,q⟩
end
end Go.Proofs.Ytikodjpbknneoaa.Abs
/- The abstract machine,part 32: copies from one block of shared memory to another one; a block is frozen ahead of a statement whose order is open. -/
namespace Go.Proofs.Ytikodjpbknneoaa.Abs
set_option linter.unusedSimpArgs false
open Go Go.RowKit
section
variable {E : Env} {G : Gh} {w : World} {a : Act} {st : St} {n : Nat}
def vcCopyM (E : Env) (o : Oper) (K : St → Prop) (st : St) : Prop :=
 match o.dst,o.op with
 | some d,.call c => match c.callee,c.argTypes.toList,c.args.toList with
  | .builtin .copy,[t,t2],[x,y] => match E.T t,st.sv E.T t x,st.sv E.T t2 y with
   | some ⟨.slice e,_,_,_⟩,.v (.mslice i off len _),.v (.mslice b soff slen _) => match E.T e,st.mem i,st.mem b with
    | some ei,some (.cells cells),some (.cells l) => (ei.size = 1 ∧ 0 < slen ∧ len ≤ slen ∧ off + len ≤ cells.length ∧ soff + len ≤ l.length ∧ ((l.drop soff).take len).all flat = true) ∧
     K (st.eff (some d) (.mput (.int .i64 len) i (.cells (overlay cells off ((l.drop soff).take len)))))
    | _,_,_ => False
   | _,_,_ => False
  | _,_,_ => False
 | _,_ => False
theorem Reps.cut {com : Nat → Nat} {w : World} {l : List AV} {cs : List Value} (h : Reps com w l cs) (s n : Nat) : Reps com w ((l.drop s).take n) ((cs.drop s).take n) := by
 obtain ⟨h1,h2⟩ := h
 refine ⟨by simp [h1],fun i x v hx hv => ?_⟩
 have hi : i < n := by
  have := (List.getElem?_eq_some_iff.1 hx).1
  rw [List.length_take] at this
  omega
 rw [List.getElem?_take_of_lt hi,List.getElem?_drop] at hx hv
 exact h2 _ _ _ hx hv
theorem reps_flat {com : Nat → Nat} {w : World} {l : List AV} {cs : List Value} (h : Reps com w l cs) (hf : l.all flat = true) : ∀ v ∈ cs,plainV v = true := by
 intro v hv
 obtain ⟨i,hi,rfl⟩ := List.mem_iff_getElem.1 hv
 have hl : i < l.length := by rw [h.1]; exact hi
 have hp := flat_plain (h.2 i _ _ (List.getElem?_eq_getElem hl) (List.getElem?_eq_getElem hi)) (List.all_eq_true.1 hf _ (List.getElem_mem hl))
 cases hc : cs[i] with
 | agg a => exact absurd hc (hp a).1
 | tuple a => exact absurd hc (hp a).2
 | _ => rfl
theorem vcCopyM_sound (hE : EnvOk E) {o : Oper} {K : St → Prop} (h : vcCopyM E o K st) (hd : dstOk n o = true) (hi : Inv G w) (hf : FRel G w a st) (hs : a.tmps.size = n) {r : Option Nat}
  {next : Act → World → Prop} {Q : Exit → Act → World → Prop} (hn : ∀ a' w' G' st',Ext G w G' w' → Inv G' w' → FRel G' w' a' st' → a'.tmps.size = n → K st' → next a' w') : o.wpIn (fen r) 0 E.P a w next Q := by
 have hd' : ∀ t,o.dst = some t → t < a.tmps.size := fun t ht => by rw [hs]; simpa [dstOk,ht] using hd
 obtain ⟨β,R,hf⟩ := hf
 unfold vcCopyM at h
 split at h
 ·rename_i d c hdst hop
  split at h
  ·rename_i t t2 x y hcb hts hys
   split at h
   ·rename_i e sz0 by0 z0 i off len cap b soff slen scap hT hx hy
    split at h
    ·rename_i ei cells l hTe hl hb
     obtain ⟨⟨hsz1,hpos,hle,hroom,hsrc,hflat⟩,hk⟩ := h
     obtain ⟨dd,hu,hdd⟩ := (hE _ _ hT).desc
     cases dd <;> simp only [descOk] at hdd
     subst hdd
     have hsz := (hE _ _ hTe).size w
     rw [hsz1] at hsz
     have q1 := hf.eval E.T t x
     rw [hx] at q1
     have q2 := hf.eval E.T t2 y
     rw [hy] at q2
     have hvy := rep_mslice_pos (srep_v q2) (.inl hpos)
     obtain ⟨_,_,_,_,cs,eT,hheap,hreps⟩ := hf.mem b _ hb
     have hcut := hreps.cut soff len
     have hcl : cs.length = l.length := hreps.1.symm
     generalize hnews : (cs.drop soff).take len = news at hcut
     have hnl : news.length = len := by rw [← hnews]; simp; omega
     have hload : (loadCells ⟨b,soff,none⟩ len).run E.P w = .ok news.toArray w := by
      have := loadCells_run (P := E.P) (w := w) (b := b) (off := soff) (vs := fun j => cs.getD (soff + j) undef) len (fun j hj => by
       rw [cell_block hheap]
       simp [List.getElem?_eq_getElem (show soff + j < cs.length by omega)])
      rw [this]
      congr 2
      rw [← hnews]
      apply List.ext_getElem
      ·simp; omega
      ·intro j h1 h2
       simp at h1
       simp [List.getElem?_eq_getElem (show soff + j < cs.length by omega)]
     have hmin : Nat.min slen len = len := Nat.min_eq_right hle
     have fin : ∀ (vx : Value) (w' : World),a.eval x = vx → (Builtin.copy_ #[t,t2] o.type #[vx,.slice (some ⟨b,soff,none⟩) slen scap]).run E.P w = .ok (.int .i64 len) w' → Ext G w G w' → Inv G w' → FRel G w' (a.put (some d) (.int .i64 len)) (st.eff (some d) (.mput (.int .i64 len) i (.cells (overlay cells off ((l.drop soff).take len))))) → o.wpIn (fen r) 0 E.P a w next Q := by
      intro vx w' hvx hrun x1 x2 x3
      have hexec : (execOp a.eval o).run E.P w = .ok (.value (.int .i64 len)) w' := by
       have e1 : c.argTypes = #[t,t2] := by apply Array.ext'; simp [hts]
       have e2 : c.args.map a.eval = #[a.eval x,a.eval y] := by apply Array.ext'; rw [Array.toList_map,hys]; rfl
       unfold execOp
       simp only [hop,resolve,hcb,Sem.run_bind,Sem.run_pure,Result.andThen_ok,invoke]
       rw [e1,e2,hvx,hvy]
       simp [builtin,hrun]
      refine oper_in (fun c hc => by rw [hop] at hc; cases hc) ?_
      rw [hexec]
      have hnn := hn _ _ G _ x1 x2 x3 (by rw [put_size]; exact hs) hk
      show next (a.put o.dst _) _
      rw [hdst]
      exact hnn
     have hdd : ∀ t,some d = some t → t < a.tmps.size := fun t ht => hd' t (by rw [hdst]; exact ht)
     by_cases hlz : len = 0
     ·subst hlz
      have hn0 : news = [] := List.eq_nil_of_length_eq_zero hnl
      subst hn0
      have hsame : St.eff st (some d) (.mput (.int .i64 ((0 : Nat) : Int)) i (.cells (overlay cells off ((l.drop soff).take 0)))) = st.put (some d) (.v (.int .i64 ((0 : Nat) : Int))) false := by
       have e1 : overlay cells off ((l.drop soff).take 0) = cells := by unfold overlay; simp
       rw [e1]
       have e2 : upd st.mem i (some (.cells cells)) = st.mem := by
        funext k
        unfold upd
        by_cases q : k = i
        ·rw [if_pos q,q,hl]
        ·rw [if_neg q]
       simp only [St.eff,e2]
      have hput := hf.put (d := some d) (x := .v (.int .i64 ((0 : Nat) : Int))) (v := .int .i64 ((0 : Nat) : Int)) hdd (.int _ _) (fun _ h => h.elim)
      have hfr : FRel G w (a.put (some d) (.int .i64 ((0 : Nat) : Int))) (st.eff (some d) (.mput (.int .i64 ((0 : Nat) : Int)) i (.cells (overlay cells off ((l.drop soff).take 0))))) := by
       rw [hsame]; exact ⟨β,R,hput⟩
      rcases rep_mslice (srep_v q1) with e | ⟨_,_,e⟩
      ·refine fin _ w e ?_ (Ext.refl _ _) hi hfr
       simp [Builtin.copy_,Builtin.lenOf,Builtin.firstCells,Sem.run_bind,run_underlying hu,Result.andThen_ok,hsz,hmin,hload,goInt]
       rfl
      ·refine fin _ w e ?_ (Ext.refl _ _) hi hfr
       simp [Builtin.copy_,Builtin.lenOf,Builtin.firstCells,Sem.run_bind,run_underlying hu,Result.andThen_ok,hsz,hmin,hload,goInt]
     ·have hvx := rep_mslice_pos (srep_v q1) (.inl (by omega))
      obtain ⟨_,_,_,_,old,eo,hbl,hrc⟩ := hf.mem i _ hl
      have hol : old.length = cells.length := hrc.1.symm
      have hst : (storeCells ⟨i,off,none⟩ news).run E.P w = .ok () (w.setBlock' i (.cells (writeAt old off news).toArray eo (0,0))) := by
       have := storeCells_run (P := E.P) (b := i) (off := off) (e := eo) news 0 w old hbl (by rw [hnl,hol]; omega) (reps_flat hcut hflat)
       simpa using this
      have hm := hf.mset hi hl (o := .cells (writeAt old off news).toArray eo (0,0)) (y := .cells (overlay cells off ((l.drop soff).take len))) (fun w' hw' hx' => ⟨_,_,hw',(hrc.overlay hcut off).ext hx'⟩) none (fun t ht => by cases ht)
      obtain ⟨h1,h2,h3⟩ := hm
      have h3' : FRelB G _ β R a { st with mem := upd st.mem i (some (.cells (overlay cells off ((l.drop soff).take len)))) } := h3
      have hfin := h3'.put (d := some d) (x := .v (.int .i64 len)) hdd (.int _ _) (fun _ h => h.elim)
      refine fin _ _ hvx ?_ h1 h2 ⟨β,R,hfin⟩
      simp [Builtin.copy_,Builtin.lenOf,Builtin.firstCells,Sem.run_bind,run_underlying hu,Result.andThen_ok,hsz,hmin,hload,hst,goInt]
    ·exact h.elim
   ·exact h.elim
  ·exact h.elim
 ·exact h.elim
theorem ADraw.melt {ops : Array Oper} {K : St → Prop} (b sz : Nat) (es tail : List AV) (hb : st.mem b = some (.cells ((es.map AV.cells).flatten ++ tail))) (hes : ∀ e ∈ es,e.cells.length = sz ∧ e.cells.all flat = true) (h : ADraw E n ops K (st.melt b sz es) .mk) : ADraw E n ops K st .mk := by
 refine ⟨fun hd id r hr G w a hi ⟨β,R,hf⟩ hs => ?_⟩
 obtain ⟨x,i',f'⟩ := hf.melt hi hb hes
 refine wpIn_mono (h.does hd id r hr _ w a i' ⟨β,R,f'⟩ hs) fun e a' w' q => ?_
 obtain ⟨G2,st2,x2,q⟩ := q
 exact ⟨G2,st2,x.toL.trans x2,q⟩
end
end Go.Proofs.Ytikodjpbknneoaa.Abs
/- The abstract machine,part 33: a call leaves alone a block that it is not told of. -/
namespace Go.Proofs.Ytikodjpbknneoaa.Abs
set_option linter.unusedSimpArgs false
open Go Go.RowKit
theorem ACall.frame {P : Program} {f : FuncId} {xs : List AV} {m : Mem} {K : AV → Mem → Prop} {b : Nat} {y : Box} (hb : m b = none) (h : ACall P f xs m K) :
  ACall P f xs (upd m b (some y)) fun r m'' => ∃ m',K r m' ∧ m' b = none ∧ m'' = upd m' b (some y) := by
 refine ⟨h.enters,fun G w vs hi hm hr => ?_⟩
 obtain ⟨b1,b2,b3,b4,b5⟩ := hm b y (upd_same _ _ _)
 let G2 : Gh := { G with lock := fun k => G.lock k ∨ k = b }
 have hi2 : Inv G2 w := ⟨hi.below,hi.com,fun k hk => by
  rcases hk with hk | rfl
  ·exact hi.lock k hk
  ·exact b2⟩
 have hm2 : MemRep G2 w m := fun k x hk => by
  have hne : k ≠ b := fun e => by rw [e,hb] at hk; cases hk
  obtain ⟨c1,c2,c3,c4,c5⟩ := hm k x (by rw [upd_ne _ _ hne]; exact hk)
  exact ⟨c1,c2,fun q => q.elim c3 hne,c4,c5⟩
 refine (h.does G2 w vs hi2 hm2 hr).mono fun e w' ⟨v,r,m',G',he,hx,hi',hm',hr',hK⟩ => ?_
 have hlk : G'.lock = G2.lock := hx.lock
 have hnone : m' b = none := by
  cases q : m' b with
  | none => rfl
  | some x =>
   have := (hm' b x q).2.2.1
   rw [hlk] at this
   exact absurd (.inr rfl) this
 obtain ⟨hh,hc⟩ := hx.held b (.inr rfl)
 let G3 : Gh := { G' with lock := G.lock }
 have hx3 : Ext G w G3 w' := ⟨hx.z,rfl,hx.size,hx.com,hx.cell,fun k hk => hx.held k (.inl hk)⟩
 have hi3 : Inv G3 w' := ⟨hi'.below,hi'.com,fun k hk => Nat.lt_of_lt_of_le (hi.lock k hk) hx.size⟩
 refine ⟨v,r,upd m' b (some y),G3,he,hx3,hi3,fun k x hk => ?_,hr',m',hK,hnone,rfl⟩
 by_cases q : k = b
 ·subst q
  rw [upd_same] at hk
  injection hk with hk
  subst hk
  refine ⟨?_,Nat.lt_of_lt_of_le b2 hx.size,b3,?_,b5.ext hx3 hh⟩
  ·have : G3.W0 = G.W0 := hx3.W0
   rw [this]; exact b1
  ·show G'.com k = 0
   rw [hc]; exact b4
 ·rw [upd_ne _ _ q] at hk
  obtain ⟨c1,c2,c3,c4,c5⟩ := hm' k x hk
  refine ⟨c1,c2,fun w => c3 (by rw [hlk]; exact .inl w),c4,c5⟩
end Go.Proofs.Ytikodjpbknneoaa.Abs
/- The abstract machine,part 34: copies of a slice that never changes into shared memory. -/
namespace Go.Proofs.Ytikodjpbknneoaa.Abs
set_option linter.unusedSimpArgs false
open Go Go.RowKit
section
variable {E : Env} {G : Gh} {w : World} {a : Act} {st : St} {n : Nat}
def vcCopyS (E : Env) (o : Oper) (K : St → Prop) (st : St) : Prop :=
 match o.dst,o.op with
 | some d,.call c => match c.callee,c.argTypes.toList,c.args.toList with
  | .builtin .copy,[t,t2],[x,y] => match E.T t,st.sv E.T t x,st.sv E.T t2 y with
   | some ⟨.slice e,_,_,_⟩,.v (.mslice i off len _),.v (.slice sz l) => match E.T e,st.mem i with
    | some ei,some (.cells cells) => (ei.size = sz ∧ len = l.length ∧ off + len * sz ≤ cells.length) ∧
     K (st.eff (some d) (.mput (.int .i64 l.length) i (.cells (overlay cells off (l.map AV.cells).flatten))))
    | _,_ => False
   | _,_,_ => False
  | _,_,_ => False
 | _,_ => False
theorem vcCopyS_sound (hE : EnvOk E) {o : Oper} {K : St → Prop} (h : vcCopyS E o K st) (hd : dstOk n o = true) (hi : Inv G w) (hf : FRel G w a st) (hs : a.tmps.size = n) {r : Option Nat}
  {next : Act → World → Prop} {Q : Exit → Act → World → Prop} (hn : ∀ a' w' G' st',Ext G w G' w' → Inv G' w' → FRel G' w' a' st' → a'.tmps.size = n → K st' → next a' w') : o.wpIn (fen r) 0 E.P a w next Q := by
 have hd' : ∀ t,o.dst = some t → t < a.tmps.size := fun t ht => by rw [hs]; simpa [dstOk,ht] using hd
 obtain ⟨β,R,hf⟩ := hf
 unfold vcCopyS at h
 split at h
 ·rename_i d c hdst hop
  split at h
  ·rename_i t t2 x y hcb hts hys
   split at h
   ·rename_i e sz0 by0 z0 i off len cap sz l hT hx hy
    split at h
    ·rename_i ei cells hTe hl
     obtain ⟨⟨rfl,rfl,hroom⟩,hk⟩ := h
     obtain ⟨dd,hu,hdd⟩ := (hE _ _ hT).desc
     cases dd <;> simp only [descOk] at hdd
     subst hdd
     have hsz := (hE _ _ hTe).size w
     have q1 := hf.eval E.T t x
     rw [hx] at q1
     have q2 := hf.eval E.T t2 y
     rw [hy] at q2
     obtain ⟨news,hrow,hfl,hfc,hlen,hml⟩ := slice_row (srep_v q2)
     have hf1 := hfc E.P w (fun _ => rfl)
     have hl1 := hlen E.P w
     have hnl : news.length = l.length * ei.size := hrow.1
     have hcut : Reps G.com w (l.map AV.cells).flatten news := hrow.flat
     have fin : ∀ (vx : Value) (w' : World),a.eval x = vx → (Builtin.copy_ #[t,t2] o.type #[vx,a.eval y]).run E.P w = .ok (.int .i64 l.length) w' → Ext G w G w' → Inv G w' → FRel G w' (a.put (some d) (.int .i64 l.length)) (st.eff (some d) (.mput (.int .i64 l.length) i (.cells (overlay cells off (l.map AV.cells).flatten)))) → o.wpIn (fen r) 0 E.P a w next Q := by
      intro vx w' hvx hrun x1 x2 x3
      have hexec : (execOp a.eval o).run E.P w = .ok (.value (.int .i64 l.length)) w' := by
       have e1 : c.argTypes = #[t,t2] := by apply Array.ext'; simp [hts]
       have e2 : c.args.map a.eval = #[a.eval x,a.eval y] := by apply Array.ext'; rw [Array.toList_map,hys]; rfl
       unfold execOp
       simp only [hop,resolve,hcb,Sem.run_bind,Sem.run_pure,Result.andThen_ok,invoke]
       rw [e1,e2,hvx]
       simp [builtin,hrun]
      refine oper_in (fun c hc => by rw [hop] at hc; cases hc) ?_
      rw [hexec]
      have hnn := hn _ _ G _ x1 x2 x3 (by rw [put_size]; exact hs) hk
      show next (a.put o.dst _) _
      rw [hdst]
      exact hnn
     have hdd : ∀ t,some d = some t → t < a.tmps.size := fun t ht => hd' t (by rw [hdst]; exact ht)
     by_cases hlz : news = []
     ·have hov : overlay cells off (l.map AV.cells).flatten = cells := by
       have e0 : (l.map AV.cells).flatten = [] := List.eq_nil_of_length_eq_zero (by rw [hcut.1,hlz]; rfl)
       rw [e0]
       unfold overlay; simp
      have hsame : St.eff st (some d) (.mput (.int .i64 l.length) i (.cells (overlay cells off (l.map AV.cells).flatten))) = st.put (some d) (.v (.int .i64 l.length)) false := by
       rw [hov]
       have e2 : upd st.mem i (some (.cells cells)) = st.mem := by
        funext k
        unfold upd
        by_cases q : k = i
        ·rw [if_pos q,q,hl]
        ·rw [if_neg q]
       simp only [St.eff,e2]
      have hput := hf.put (d := some d) (x := .v (.int .i64 l.length)) (v := .int .i64 l.length) hdd (.int _ _) (fun _ h => h.elim)
      have hfr : FRel G w (a.put (some d) (.int .i64 l.length)) (st.eff (some d) (.mput (.int .i64 l.length) i (.cells (overlay cells off (l.map AV.cells).flatten)))) := by
       rw [hsame]; exact ⟨β,R,hput⟩
      subst hlz
      rcases rep_mslice (srep_v q1) with e | ⟨_,_,e⟩
      ·refine fin _ w e ?_ (Ext.refl _ _) hi hfr
       simp [Builtin.copy_,Sem.run_bind,run_underlying hu,Result.andThen_ok,hl1,hsz,hf1,goInt]
       rfl
      ·refine fin _ w e ?_ (Ext.refl _ _) hi hfr
       have h0 : l.length = 0 := by omega
       rw [h0] at hl1 hf1 ⊢
       simp [Builtin.copy_,Sem.run_bind,run_underlying hu,Result.andThen_ok,hl1,hsz,hf1,goInt]
     ·have hpos : 0 < l.length := by
       rcases Nat.eq_zero_or_pos l.length with h0 | h0
       ·rw [h0,Nat.zero_mul] at hnl
        exact absurd (List.eq_nil_of_length_eq_zero hnl) hlz
       ·exact h0
      have hvx := rep_mslice_pos (srep_v q1) (.inl hpos)
      obtain ⟨_,_,_,_,old,eo,hbl,hrc⟩ := hf.mem i _ hl
      have hol : old.length = cells.length := hrc.1.symm
      have hst : (storeCells ⟨i,off,none⟩ news).run E.P w = .ok () (w.setBlock' i (.cells (writeAt old off news).toArray eo (0,0))) := by
       have := storeCells_run (P := E.P) (b := i) (off := off) (e := eo) news 0 w old hbl (by rw [hnl,hol]; omega) (row_plain hrow hfl)
       simpa using this
      have hm := hf.mset hi hl (o := .cells (writeAt old off news).toArray eo (0,0)) (y := .cells (overlay cells off (l.map AV.cells).flatten)) (fun w' hw' hx' => ⟨_,_,hw',(hrc.overlay hcut off).ext hx'⟩) none (fun t ht => by cases ht)
      obtain ⟨h1,h2,h3⟩ := hm
      have h3' : FRelB G _ β R a { st with mem := upd st.mem i (some (.cells (overlay cells off (l.map AV.cells).flatten))) } := h3
      have hfin := h3'.put (d := some d) (x := .v (.int .i64 l.length)) hdd (.int _ _) (fun _ h => h.elim)
      refine fin _ _ hvx ?_ h1 h2 ⟨β,R,hfin⟩
      simp [Builtin.copy_,Sem.run_bind,run_underlying hu,Result.andThen_ok,hl1,hsz,hf1,hst,goInt]
    ·exact h.elim
   ·exact h.elim
  ·exact h.elim
 ·exact h.elim
end
end Go.Proofs.Ytikodjpbknneoaa.Abs
