/- Lemmas for the statements of this seat (X7): they hold without conditions beyond those that each one states. -/
import Derived.Test.YtdmejgfcaacdoaaGreatX6
/- Statements whose order is open,part 2: what one operation does; two that do not look at each other can change places. -/
namespace Go.Proofs.YtdmejgfcaacdoaaGreat.Abs
set_option linter.unusedSimpArgs false
open Go Go.RowKit
def noneF {α : Type} : Nat → Option α := fun _ => none
def isWriter : Op → Bool
 | .store .. | .mapUpdate .. => true
 | _ => false
def isNewer : Op → Bool
 | .alloc _ | .box _ _ | .makeSlice _ _ _ => true
 | _ => false
def loud (c : Nat) (o : Oper) : Bool := isWriter o.op || isNewer o.op || (c == 1 || c == 2)
def Shape (o : Oper) (e : Eff) : Prop :=
 (isWriter o.op = true ∧ ((∃ i c,e = .set i c) ∨ ∃ b x,e = .mset b x)) ∨ (isWriter o.op = false ∧ isNewer o.op = true ∧ ∃ c sl,e = .new c sl) ∨ (isWriter o.op = false ∧ ∃ x b,e = .put x b)
def isCallV (o : Oper) : Bool := match o.op with
 | .call c => match c.callee with
  | .value _ => true
  | _ => false
 | _ => false
def maskM (x : SV) (m : Mem) : Mem := match x with
 | .v (.ptr b _) => upd m b none
 | _ => noneF
def hidM (o : Oper) (k : Nat) (st : St) : Mem := if isLook o.op = true then (if k = 3 then st.mem else if 4 ≤ k then maskM (st.vals (k - 4)) st.mem else noneF) else noneF
theorem hidM_le {o : Oper} {k : Nat} {st : St} : ∀ b x,hidM o k st b = some x → st.mem b = some x := by
 intro b x h
 unfold hidM at h
 split at h
 ·split at h
  ·exact h
  ·split at h
   ·generalize st.vals (k - 4) = y at h
    have key : ∀ c,upd st.mem c none b = some x → st.mem b = some x := fun c hc => by
     unfold upd at hc
     split at hc
     ·cases hc
     ·exact hc
    cases y with
    | v y => cases y <;> first | exact key _ h | cases h
    | _ => cases h
   ·cases h
 ·cases h
def storesAt (o : Oper) (s : Nat) : Bool := match o.op with
 | .store _ (.tmp t) _ => t == s
 | _ => false
def LCall (P : Program) (g : FuncId) (xs : List AV) (hide : Bool) (m : Mem) (r : AV) : Prop := PCall P g xs r ∨ (hide = false ∧ ACall P g xs m fun r' m' => r' = r ∧ m' = m)
theorem LCall.at {P : Program} {g : FuncId} {xs : List AV} {hide : Bool} {m : Mem} {r : AV} (h : LCall P g xs hide m r) : ACall P g xs m fun r' m' => r' = r ∧ m' = m := h.elim (fun h => h m) (·.2)
def DCond (E : Env) (lin : Nat → Bool) (hide : Bool) (k : Nat) (o : Oper) (st : St) (tk : Option Nat) (e : Eff) : Prop :=
 (ev E o (st.sv E.T) st.ow (if hide then noneF else st.loc) (if hide then (if k = 0 then noneF else hidM o k st) else st.mem) (fun e' => e' = e) ∧ Shape o e ∧ (match takes o with | some (.tmp t) => lin t = true ∧ tk = some t | _ => tk = none) ∧
  ∀ d,o.dst = some d → (∃ cells sl,e = .new cells sl) → st.loc d = none) ∨
 (∃ x,(o.op = .move x ∨ o.op = .assign x) ∧ tk = none ∧ e = .put (st.sv E.T o.type x) false) ∨
 (∃ c f g first caps ys r,o.op = .call c ∧ c.callee = .value f ∧ c.argTypes.toList.length = c.args.toList.length ∧ st.sv E.T 0 f = .v (.fn (.func g) first caps) ∧
  avs ((c.argTypes.toList.zip c.args.toList).map fun p => st.sv E.T p.1 p.2) = some ys ∧ LCall E.P g (first ++ ys ++ caps) hide st.mem r ∧ tk = none ∧ e = .put (.v r) false) ∨
 (k = 1 ∧ hide = false ∧ ∃ c f g first caps ys r m1,o.op = .call c ∧ c.callee = .value f ∧ c.argTypes.toList.length = c.args.toList.length ∧ st.sv E.T 0 f = .v (.fn (.func g) first caps) ∧
  avs ((c.argTypes.toList.zip c.args.toList).map fun p => st.sv E.T p.1 p.2) = some ys ∧ ACall E.P g (first ++ ys ++ caps) st.mem (fun r' m' => r' = r ∧ m' = m1) ∧ tk = none ∧ e = .call r m1)
def DGuard (ops : Array Oper) (o : Oper) (st : St) (b : Bool) : Prop :=
 match o.guard with
 | none => b = true
 | some (j,want) => match gslot ops j with
  | none => False
  | some d => match st.vals d with
   | .v (.bool c) => b = (c == want)
   | .v (.tuple []) => b = false
   | _ => False
def DAct (E : Env) (lin : Nat → Bool) (hide : Bool) (k : Nat) (ops : Array Oper) (o : Oper) (st : St) (tk : Option Nat) (e : Eff) : Prop :=
 (DGuard ops o st true ∧ DCond E lin hide k o st tk e) ∨ (DGuard ops o st false ∧ tk = none ∧ e = .put undefS false)
def valsU (d : Option Tmp) (e : Eff) (v : Nat → SV) : Nat → SV :=
 match d with
 | none => v
 | some d => match e with
  | .put x _ => upd v d x
  | .new _ sl => upd v d (match sl with | none => .loc d 0 | some n => .lslice d 0 n n)
  | .set _ _ => upd v d undefS
  | .mset _ _ => upd v d undefS
  | .call x _ => upd v d (.v x)
  | .mput x _ _ => upd v d (.v x)
  | .setp x _ _ => upd v d (.v x)
def ownU (d : Option Tmp) (tk : Option Nat) (e : Eff) (o : Nat → Bool) : Nat → Bool :=
 let o1 := match tk with | some t => upd o t false | none => o
 match d with
 | none => o1
 | some d => match e with
  | .put _ b => upd o1 d b
  | _ => upd o1 d false
def locU (d : Option Tmp) (e : Eff) (l : Nat → Option (List AV)) : Nat → Option (List AV) :=
 match e with
 | .new cells _ => match d with | some d => upd l d (some cells) | none => l
 | .set i cells => upd l i (some cells)
 | .setp _ i cells => upd l i (some cells)
 | _ => l
def memU (e : Eff) (m : Mem) : Mem := match e with
 | .mset b x => upd m b (some x)
 | .call _ m' => m'
 | .mput _ b x => upd m b (some x)
 | _ => m
def DTo (o : Oper) (tk : Option Nat) (e : Eff) (st : St) : St := ⟨valsU o.dst e st.vals,ownU o.dst tk e st.own,locU o.dst e st.loc,memU e st.mem⟩
theorem DTo_eff (o : Oper) (tk : Option Nat) (e : Eff) (st : St) : DTo o tk e st = (match tk with | some t => ({ st with own := upd st.own t false } : St) | none => st).eff o.dst e := by
 unfold DTo St.eff valsU ownU locU memU
 cases o.dst <;> cases e <;> cases tk <;> rfl
section
variable {E : Env} {G : Gh} {w : World} {a : Act} {st : St}
theorem dguard_wanted {β : Nat → Nat} {R : Nat → Role} (hfb : FRelB G w β R a st) {ops : Array Oper} {o : Oper} {b : Bool} (hg : DGuard ops o st b) : Region.wanted o (yielded ops a.tmps) = b := by
 unfold DGuard at hg
 split at hg
 ·rename_i hgu; simp [Region.wanted,hgu,hg]
 ·rename_i j want hgu
  split at hg
  ·exact hg.elim
  ·rename_i d hj
   have hv := hfb.vals d
   split at hg
   ·rename_i c hc
    rw [hc] at hv
    have hval := getD_some (rep_bool (srep_v hv)) (by simp [undef])
    have hy : yielded ops a.tmps j = some c := by
     unfold yielded
     rw [show (ops[j]?).bind (·.dst) = some d from hj]
     simp [hval]
    subst hg
    simp only [Region.wanted,hgu,hy]
    cases c <;> cases want <;> rfl
   ·rename_i hc
    rw [hc] at hv
    have hval := rep_nilundef (srep_v hv)
    have hy : yielded ops a.tmps j = none := by
     unfold yielded
     rw [show (ops[j]?).bind (·.dst) = some d from hj]
     by_cases hlt : d < a.tmps.size
     ·have : a.tmps[d]? = some undef := by
       rw [Array.getElem?_eq_getElem hlt]
       simp [Array.getD,hlt] at hval
       rw [hval]
      simp [this,undef]
     ·simp [Array.getElem?_eq_none (Nat.le_of_not_lt hlt)]
    subst hg
    simp [Region.wanted,hgu,hy]
   ·exact hg.elim
theorem dact_sound (hE : EnvOk E) {r : Option Nat} {lin : Nat → Bool} {hide : Bool} {k : Nat} {ops : Array Oper} {o : Oper} {tk : Option Nat} {e : Eff} (h : DAct E lin hide k ops o st tk e) (hi : Inv G w) (hf : FRel G w a st) {n : Nat} (hs : a.tmps.size = n)
  (hd : dstOk n o = true) {next : Act → World → Prop} {Q : Exit → Act → World → Prop} (hn : ∀ a' w' G',Ext G w G' w' → Inv G' w' → FRel G' w' a' (DTo o tk e st) → a'.tmps.size = n → next a' w') :
  if Region.wanted o (yielded ops a.tmps) then o.wpIn (fen r) 0 E.P a w next Q else (∀ f,o.about E.P w a.eval = some f → (fen r).fn f) ∧ next (a.put o.dst undef) w := by
 have hd' : ∀ t,o.dst = some t → t < a.tmps.size := fun t ht => by rw [hs]; simpa [dstOk,ht] using hd
 obtain ⟨β,R,hfb⟩ := hf
 have guard : ∀ b,DGuard ops o st b → Region.wanted o (yielded ops a.tmps) = b := fun b hg => dguard_wanted hfb hg
 rcases h with ⟨hg,h⟩ | ⟨hg,rfl,rfl⟩
 ·rw [guard true hg,if_pos rfl]
  have fin : (∀ c,o.op ≠ .defer c) → OpOk E.P o a w G (DTo o tk e st) → o.wpIn (fen r) 0 E.P a w next Q := by
   rintro hnd ⟨v,w',G',hr,hx,hi',hf'⟩
   have hnn := hn (a.put o.dst v) w' G' hx hi' hf' (by rw [put_size]; exact hs)
   refine oper_in hnd ?_
   rcases hr with hr | ⟨hr,rfl⟩ <;> rw [hr] <;> exact hnn
  rcases h with ⟨h,_,htk,hnew⟩ | ⟨x,hx,rfl,rfl⟩ | ⟨c,f,g,first,caps,ys,r',hop,hcf,hlen,hfe,hys,hp,rfl,rfl⟩ | ⟨_,_,c,f,g,first,caps,ys,r',m1,hop,hcf,hlen,hfe,hys,hp,rfl,rfl⟩
  ·have h' : ev E o (st.sv E.T) st.ow st.loc st.mem (fun e' => e' = e) := by
    cases hide with
    | false => exact h
    | true =>
     by_cases k3 : isLook o.op = true
     ·rw [if_pos rfl,if_pos rfl] at h
      refine ev_look k3 (mem := if k = 0 then noneF else hidM o k st) (fun b x hx => ?_) h
      split at hx
      ·cases hx
      ·exact hidM_le b x hx
     ·have e : (if true = true then (if k = 0 then noneF else hidM o k st) else st.mem) = noneF := by
       rw [if_pos rfl]
       unfold hidM
       rw [if_neg k3,ite_self]
      rw [e] at h
      exact ev_unhide (fun d hd cells sl he => hnew d hd ⟨cells,sl,he.symm⟩) h
   obtain ⟨e',he,hok⟩ := ev_sound hE h' hi hfb hd'
   subst he
   refine fin (ev_nodefer h') ?_
   rw [DTo_eff]
   cases ht : takes o with
   | none => rw [ht] at htk hok; simp only at htk; subst htk; exact hok
   | some x =>
    rw [ht] at htk hok
    cases x with
    | tmp t => simp only at htk; obtain ⟨_,rfl⟩ := htk; exact hok
    | _ => simp only at htk; subst htk; exact hok
  ·refine fin (fun c hc => by rcases hx with hx | hx <;> rw [hx] at hc <;> cases hc) ?_
   rw [DTo_eff]
   have hrun : (execOp a.eval o).run E.P w = .ok (.value (a.eval x)) w := by
    rcases hx with hx | hx <;> simp [execOp,hx]
   exact opOk_value hfb hi hd' (hfb.eval E.T o.type x) (hfb.refs E.T o.type x) hrun
  ·have hfv := hfb.eval E.T 0 f
   rw [hfe] at hfv
   obtain ⟨fs,cs,hval,hrf,hrc⟩ := rep_fn (srep_v hfv)
   have hra := zip_avs hfb c.argTypes.toList c.args.toList ys hlen hys
   have hcall := call_sound hi hfb hp.at ((hrf.append hra).append hrc)
   have hrun : (execOp a.eval o).run E.P w = .ok (.enter g (fs ++ c.args.toList.map a.eval ++ cs).toArray) w := by
    have e2 : (fs.toArray ++ c.args.map a.eval ++ cs.toArray) = (fs ++ c.args.toList.map a.eval ++ cs).toArray := by
     apply Array.ext'; simp
    unfold execOp
    simp only [hop,resolve,hcf,hval,Deferred.ofValue,Sem.run_bind,Sem.run_pure,Result.andThen_ok,invoke]
    rw [hp.at.1,e2]
   refine oper_in (fun c hc => by rw [hop] at hc; cases hc) ?_
   rw [hrun]
   refine ⟨fen_depth r,(calls_fen hcall).mono ?_⟩
   rintro e w' ⟨v,r',m',G',R',rfl,hx,hi',hf',hr,rfl,rfl⟩
   have hfp := hf'.put (d := o.dst) (x := .v r') hd' hr (fun i h => h.elim)
   refine hn _ _ G' hx hi' ⟨β,R',?_⟩ (by rw [put_size]; exact hs)
   rw [DTo_eff]; exact hfp
  ·have hfv := hfb.eval E.T 0 f
   rw [hfe] at hfv
   obtain ⟨fs,cs,hval,hrf,hrc⟩ := rep_fn (srep_v hfv)
   have hra := zip_avs hfb c.argTypes.toList c.args.toList ys hlen hys
   have hcall := call_sound hi hfb hp ((hrf.append hra).append hrc)
   have hrun : (execOp a.eval o).run E.P w = .ok (.enter g (fs ++ c.args.toList.map a.eval ++ cs).toArray) w := by
    have e2 : (fs.toArray ++ c.args.map a.eval ++ cs.toArray) = (fs ++ c.args.toList.map a.eval ++ cs).toArray := by
     apply Array.ext'; simp
    unfold execOp
    simp only [hop,resolve,hcf,hval,Deferred.ofValue,Sem.run_bind,Sem.run_pure,Result.andThen_ok,invoke]
    rw [hp.1,e2]
   refine oper_in (fun c hc => by rw [hop] at hc; cases hc) ?_
   rw [hrun]
   refine ⟨fen_depth r,(calls_fen hcall).mono ?_⟩
   rintro e w' ⟨v,r',m',G',R',rfl,hx,hi',hf',hr,rfl,rfl⟩
   have hfp := hf'.put (d := o.dst) (x := .v r') hd' hr (fun i h => h.elim)
   refine hn _ _ G' hx hi' ⟨β,R',?_⟩ (by rw [put_size]; exact hs)
   rw [DTo_eff]; exact hfp
 ·rw [guard false hg,if_neg (by simp)]
  refine ⟨fun _ _ => fen_fn r _,hn _ w G (Ext.refl _ _) hi ⟨β,R,?_⟩ (by rw [put_size]; exact hs)⟩
  rw [DTo_eff]
  exact hfb.put hd' (x := undefS) (v := undef) (rep_undef _ _) (fun i h => h.elim)
def vcCallS (E : Env) (f : SV) (xs : List SV) (mem : Mem) (S : Option Nat → Eff → Prop) : Prop :=
 match f,avs xs with
 | .v (.fn (.func g) first caps),some ys => ACall E.P g (first ++ ys ++ caps) mem fun r m' => S none (.call r m')
 | .v (.fn (.yield l) first _),some ys => AYield E.P l (first ++ ys) mem fun r m' => S none (.call r m')
 | _,_ => False
def DActS (E : Env) (lin : Nat → Bool) (hide : Bool) (k : Nat) (ops : Array Oper) (o : Oper) (st : St) (S : Option Nat → Eff → Prop) : Prop :=
 (∃ tk e,DAct E lin hide k ops o st tk e ∧ S tk e) ∨
 (k = 2 ∧ hide = false ∧ DGuard ops o st true ∧ ∃ c f,o.op = .call c ∧ c.callee = .value f ∧ c.argTypes.toList.length = c.args.toList.length ∧
  vcCallS E (st.sv E.T 0 f) ((c.argTypes.toList.zip c.args.toList).map fun p => st.sv E.T p.1 p.2) st.mem S) ∨
 (k = 2 ∧ hide = false ∧ DGuard ops o st true ∧ (∀ s,storesAt o s = false) ∧ vcAppE E o st (S none))
theorem dacts_sound (hE : EnvOk E) {r : Option Nat} {lin : Nat → Bool} {hide : Bool} {k : Nat} {ops : Array Oper} {o : Oper} {S : Option Nat → Eff → Prop} (h : DActS E lin hide k ops o st S) (hi : Inv G w) (hf : FRel G w a st) {n : Nat} (hs : a.tmps.size = n)
  (hd : dstOk n o = true) {next : Act → World → Prop} {Q : Exit → Act → World → Prop} (hn : ∀ tk e,S tk e → ∀ a' w' G',Ext G w G' w' → Inv G' w' → FRel G' w' a' (DTo o tk e st) → a'.tmps.size = n → next a' w') :
  if Region.wanted o (yielded ops a.tmps) then o.wpIn (fen r) 0 E.P a w next Q else (∀ f,o.about E.P w a.eval = some f → (fen r).fn f) ∧ next (a.put o.dst undef) w := by
 rcases h with ⟨tk,e,h,hS⟩ | ⟨_,_,hg,c,f,hop,hcf,hlen,h⟩ | ⟨_,_,hg,_,h⟩
 ·exact dact_sound hE h hi hf hs hd (hn tk e hS)
 rotate_left 1
 ·have hwt : Region.wanted o (yielded ops a.tmps) = true := by
   obtain ⟨β,R,hfb⟩ := hf
   exact dguard_wanted hfb hg
  rw [hwt,if_pos rfl]
  exact vcAppG_sound (K := fun st' => ∃ e,S none e ∧ st' = st.eff o.dst e) hE (vcAppE_congr (fun _ _ _ => rfl) rfl h fun x m hx => ⟨_,hx,rfl⟩) hd hi hf hs (by
   rintro a' w' G' st' hx hi' hf' hs' ⟨e,he,rfl⟩
   exact hn none e he a' w' G' hx hi' (by rw [DTo_eff]; exact hf') hs')
 ·have hd' : ∀ t,o.dst = some t → t < a.tmps.size := fun t ht => by rw [hs]; simpa [dstOk,ht] using hd
  obtain ⟨β,R,hfb⟩ := hf
  rw [dguard_wanted hfb hg,if_pos rfl]
  have hnd : ∀ c,o.op ≠ .defer c := fun c hc => by rw [hop] at hc; cases hc
  unfold vcCallS at h
  split at h
  ·rename_i g first caps ys hfe hys
   have hfv := hfb.eval E.T 0 f
   rw [hfe] at hfv
   obtain ⟨fs,cs,hval,hrf,hrc⟩ := rep_fn (srep_v hfv)
   have hra := zip_avs hfb c.argTypes.toList c.args.toList ys hlen hys
   have hcall := call_sound hi hfb h ((hrf.append hra).append hrc)
   have hrun : (execOp a.eval o).run E.P w = .ok (.enter g (fs ++ c.args.toList.map a.eval ++ cs).toArray) w := by
    have e2 : (fs.toArray ++ c.args.map a.eval ++ cs.toArray) = (fs ++ c.args.toList.map a.eval ++ cs).toArray := by
     apply Array.ext'; simp
    unfold execOp
    simp only [hop,resolve,hcf,hval,Deferred.ofValue,Sem.run_bind,Sem.run_pure,Result.andThen_ok,invoke]
    rw [h.1,e2]
   refine oper_in hnd ?_
   rw [hrun]
   refine ⟨fen_depth r,(calls_fen hcall).mono ?_⟩
   rintro e w' ⟨v,r',m',G',R',rfl,hx,hi',hf',hr,hK⟩
   have hfp := hf'.put (d := o.dst) (x := .v r') hd' hr (fun i h => h.elim)
   refine hn _ _ hK _ _ G' hx hi' ⟨β,R',?_⟩ (by rw [put_size]; exact hs)
   rw [DTo_eff]; exact hfp
  ·rename_i l first caps ys hfe hys
   have hfv := hfb.eval E.T 0 f
   rw [hfe] at hfv
   obtain ⟨fs,cs,hval,hrf,hrc⟩ := rep_fn (srep_v hfv)
   have hra := zip_avs hfb c.argTypes.toList c.args.toList ys hlen hys
   obtain ⟨f',tmps,assign,body,hy,hround⟩ := yield_sound hi hfb h (hrf.append hra)
   have hrun : (execOp a.eval o).run E.P w = .ok (.round l f' tmps assign body) w := by
    have e2 : (fs.toArray ++ c.args.map a.eval) = (fs ++ c.args.toList.map a.eval).toArray := by
     apply Array.ext'; simp
    unfold execOp
    simp only [hop,resolve,hcf,hval,Deferred.ofValue,Sem.run_bind,Sem.run_pure,Result.andThen_ok,invoke]
    rw [e2,hy]
   refine oper_in hnd ?_
   rw [hrun]
   refine ⟨fen_depth r,(round_fen hround).mono ?_⟩
   rintro e w' ⟨v,r',m',G',R',rfl,hx,hi',hf',hr,hK⟩
   have hfp := hf'.put (d := o.dst) (x := .v r') hd' hr (fun i h => h.elim)
   refine hn _ _ hK _ _ G' hx hi' ⟨β,R',?_⟩ (by rw [put_size]; exact hs)
   rw [DTo_eff]; exact hfp
  ·exact h.elim
end
end Go.Proofs.YtdmejgfcaacdoaaGreat.Abs
/- Statements whose order is open,part 3: what an operation does is one thing; its kind. -/
namespace Go.Proofs.YtdmejgfcaacdoaaGreat.Abs
set_option linter.unusedSimpArgs false
open Go Go.RowKit
def vcLenD (x : SV) (K : AV → Prop) : Prop := match x with
 | .v (.slice _ l) => K (.int .i64 l.length)
 | .lslice _ _ len _ => K (.int .i64 len)
 | .v (.mslice _ _ len _) => K (.int .i64 len)
 | _ => False
def vcLenTD (E : Env) (t : TypeId) (x : SV) (K : AV → Prop) : Prop := match E.T t with
 | some ⟨.slice _,_,_,_⟩ => vcLenD x K
 | some ⟨.string,_,_,_⟩ => match x with
  | .v (.str s) => K (.int .i64 s.size)
  | _ => False
 | some ⟨.array n _,_,_,_⟩ => K (.int .i64 n)
 | _ => False
def vcBuiltinD (E : Env) (b : Builtin) (ts : List TypeId) (xs xs0 : List SV) (os : List Bool) (K : Eff → Prop) : Prop :=
 match b with
 | .len => match ts,xs with
  | t :: _,x :: _ => vcLenTD E t x fun r => K (.put (.v r) false)
  | _,_ => False
 | .copy => False
 | b => vcBuiltin E b ts xs xs0 os noneF K
def evD (E : Env) (o : Oper) (ρ : TypeId → Operand → SV) (ow : Operand → Bool) (loc : Nat → Option (List AV)) (mem : Mem) (K : Eff → Prop) : Prop :=
 match o.op with
 | .call c => match c.callee with
  | .builtin b => o.dst.isSome = true ∧ vcBuiltinD E b c.argTypes.toList ((c.argTypes.toList.zip c.args.toList).map fun p => ρ p.1 p.2) (c.args.toList.map (ρ 0)) (c.args.toList.map ow) K
  | _ => False
 | .alloc _ | .box _ _ | .makeSlice _ _ _ => (match o.dst with
   | some d => match E.H d with
    | .shared => False
    | _ => True
   | none => True) ∧ ev E o ρ ow loc mem K
 | .makeMap _ _ | .range _ _ | .next _ _ => False
 | _ => ev E o ρ ow loc mem K
section
variable {E : Env}
instance : Inhabited AV := ⟨.top⟩
instance : Inhabited SV := ⟨.v .top⟩
instance : Inhabited Eff := ⟨.put (.v .top) false⟩
def Det {α : Type} (Q : (α → Prop) → Prop) : Prop := ∃ (c : Prop) (r : α),∀ K,Q K ↔ (c ∧ K r)
theorem Det.leaf {α : Type} {c : Prop} {x : α} : Det fun K => c ∧ K x := ⟨c,x,fun _ => Iff.rfl⟩
theorem Det.one {α : Type} {x : α} : Det fun K => K x := ⟨True,x,fun _ => by simp⟩
theorem Det.no {α : Type} [Inhabited α] : Det fun _ : α → Prop => False := ⟨False,default,fun _ => by simp⟩
theorem Det.and {α : Type} {c : Prop} {Q : (α → Prop) → Prop} (h : Det Q) : Det fun K => c ∧ Q K := by
 obtain ⟨c',r,h⟩ := h
 exact ⟨c ∧ c',r,fun K => by simp only [h,and_assoc]⟩
theorem Det.map {α β : Type} {Q : (α → Prop) → Prop} (h : Det Q) (f : α → β) : Det fun K : β → Prop => Q fun x => K (f x) := by
 obtain ⟨c,r,h⟩ := h
 exact ⟨c,f r,fun K => h _⟩
theorem Det.bind {α β : Type} {Q : (α → Prop) → Prop} (h : Det Q) {f : α → (β → Prop) → Prop} (hf : ∀ x,Det (f x)) : Det fun K : β → Prop => Q fun x => f x K := by
 obtain ⟨c,r,h⟩ := h
 obtain ⟨c',r',h'⟩ := hf r
 exact ⟨c ∧ c',r',fun K => by simp only [h,h',and_assoc]⟩
theorem Det.some {α β : Type} [Inhabited β] {o : Option α} {f : α → (β → Prop) → Prop} (hf : ∀ x,Det (f x)) : Det fun K : β → Prop => vcSome o fun x => f x K := by
 cases o with
 | none => exact Det.no
 | some x => exact hf x
theorem Det.ite {α : Type} {c : Prop} [Decidable c] {Q R : (α → Prop) → Prop} (h : Det Q) (h' : Det R) : Det fun K => if c then Q K else R K := by
 by_cases hc : c
 ·simpa [hc] using h
 ·simpa [hc] using h'
theorem Det.get {α : Type} {Q : (α → Prop) → Prop} (h : Det Q) {K : α → Prop} (hq : Q K) : ∃ r,Q (fun x => x = r) ∧ K r := by
 obtain ⟨c,r,h⟩ := h
 obtain ⟨h1,h2⟩ := (h K).1 hq
 exact ⟨r,(h _).2 ⟨h1,rfl⟩,h2⟩
theorem Det.holds {α : Type} {Q : (α → Prop) → Prop} (h : Det Q) {P : α → Prop} (hp : Q P) {K : α → Prop} (hq : Q K) : Q fun x => P x ∧ K x := by
 obtain ⟨c,r,h⟩ := h
 exact (h _).2 ⟨((h _).1 hq).1,((h _).1 hp).2,((h _).1 hq).2⟩
theorem vcInts_det {op : BinOp} {k : IntKind} {a b : Int} : Det fun K => vcInts op k a b K := by
 unfold vcInts
 cases op <;> first | exact Det.leaf | exact Det.one | exact Det.no | exact Det.and Det.leaf
theorem vcShift_det {op : BinOp} {k : IntKind} {a b : Int} : Det fun K => vcShift op k a b K := by
 unfold vcShift
 cases op <;> first | exact Det.leaf | exact Det.no
theorem vcEqAgg_det {P : Program} {op : BinOp} {t : TypeId} {l l' : List AV} : Det fun K => vcEqAgg P op t l l' K := by
 unfold vcEqAgg
 generalize eqCells l l' = e
 cases op <;> cases e <;> first | exact Det.leaf | exact Det.no
theorem vcBin_det {op : BinOp} {t : TypeId} {x y : SV} : Det fun K => vcBin E op t x y K := by
 unfold vcBin
 cases x with
 | v x =>
  cases y with
  | v y =>
   cases x <;> cases y <;> first | exact Det.no | skip
   ·generalize E.T t = e
    rcases e with _ | ⟨d,_,_,_⟩
    ·cases op <;> exact Det.no
    ·cases op <;> cases d <;> first | exact Det.one | exact Det.no
   ·exact Det.ite vcShift_det (Det.and vcInts_det)
   ·cases op <;> first | exact Det.one | exact Det.leaf | exact Det.no
   ·exact vcEqAgg_det
  | _ => cases x <;> exact Det.no
 | _ => exact Det.no
theorem vcUn_det {op : UnOp} {x : SV} : Det fun K => vcUn op x K := by
 unfold vcUn
 cases x with
 | v x => cases op <;> cases x <;> first | exact Det.one | exact Det.leaf | exact Det.no
 | _ => cases op <;> exact Det.no
theorem vcConvert_det {s d : TypeId} {x : SV} : Det fun K => vcConvert E s d x K := by
 unfold vcConvert
 generalize E.T s = a
 generalize E.T d = b
 cases x with
 | v x =>
  cases x <;> first | exact Det.no | skip
  rcases a with _ | a <;> rcases b with _ | ⟨b,_,_,_⟩ <;> first | exact Det.no | skip
  cases b <;> first | exact Det.no | exact Det.leaf
 | _ => exact Det.no
theorem vcPick_det {c a b : SV} : Det fun K => vcPick c a b K := by
 unfold vcPick
 cases c with
 | v c =>
  cases c <;> first | exact Det.no | skip
  rename_i t
  cases t
  ·exact ⟨True,b,fun K => by simp⟩
  ·exact ⟨True,a,fun K => by simp⟩
 | _ => exact Det.no
theorem vcFrom_det {i : Option TyI} {l : List AV} : Det fun K => vcFrom i l K := by
 unfold vcFrom
 cases i with
 | none => exact Det.no
 | some i =>
  refine Det.ite Det.leaf ?_
  cases l with
  | nil => exact Det.no
  | cons => exact Det.one
theorem vcLoad_det {t : TypeId} {a : SV} {loc : Nat → Option (List AV)} {mem : Mem} : Det fun K => vcLoad E t a loc mem K := by
 unfold vcLoad
 cases a with
 | v a =>
  cases a <;> first | exact Det.no | exact vcFrom_det | skip
  rename_i b off
  simp only
  generalize mem b = m
  rcases m with _ | m
  ·exact Det.no
  ·cases m <;> first | exact Det.no | exact vcFrom_det
 | loc i off =>
  simp only
  generalize loc i = m
  cases m with
  | none => exact Det.no
  | some l => exact vcFrom_det
 | _ => exact Det.no
theorem vcStoreAt_det {t : TypeId} {x : AV} {l : List AV} {off : Nat} : Det fun K => vcStoreAt E t x l off K := by
 unfold vcStoreAt
 generalize E.T t = e
 cases e with
 | none => exact Det.no
 | some i => exact Det.leaf
theorem vcStore_det {t : TypeId} {a x : SV} {loc : Nat → Option (List AV)} {mem : Mem} : Det fun K => vcStore E t a x loc mem K := by
 unfold vcStore
 cases a with
 | v a =>
  cases x with
  | v x =>
   cases a <;> first | exact Det.no | skip
   rename_i b off
   simp only
   generalize mem b = m
   rcases m with _ | m
   ·exact Det.no
   ·cases m with
    | cells l => exact vcStoreAt_det.map fun l' => Eff.mset b (.cells l')
    | _ => exact Det.no
  | _ => cases a <;> exact Det.no
 | loc i off =>
  cases x with
  | v x =>
   simp only
   generalize loc i = m
   cases m with
   | none => exact Det.no
   | some l => exact vcStoreAt_det.map fun l' => Eff.set i l'
  | _ => exact Det.no
 | _ => exact Det.no
theorem vcNil_det {x : SV} : Det fun K => vcNil x K := by
 unfold vcNil
 cases x with
 | v x =>
  cases x <;> first | exact Det.no | exact Det.one | skip
  rename_i f _ _
  cases f <;> first | exact Det.no | exact Det.one
 | loc => exact Det.one
 | _ => exact Det.no
theorem vcFieldAddr_det {s : TypeId} {x : SV} {f : Nat} : Det fun K => vcFieldAddr E s x f K := by
 unfold vcFieldAddr
 generalize fieldOf E.T s f = e
 cases e with
 | none => exact Det.no
 | some p =>
  obtain ⟨off,i⟩ := p
  refine Det.and ?_
  cases x with
  | v x => cases x <;> first | exact Det.no | exact Det.one | exact Det.leaf
  | loc => exact Det.one
  | _ => exact Det.no
theorem vcField_det {s : TypeId} {x : SV} {f : Nat} : Det fun K => vcField E s x f K := by
 unfold vcField
 generalize fieldOf E.T s f = e
 cases e with
 | none => exact Det.no
 | some p =>
  obtain ⟨off,i⟩ := p
  cases x with
  | v x => cases x <;> first | exact Det.no | exact vcFrom_det
  | _ => exact Det.no
theorem VIdx_det {β : Type} [Inhabited β] {l : List AV} {i : Int} {f : AV → (β → Prop) → Prop} (hf : ∀ x,Det (f x)) : Det fun K => VIdx l i fun e => f e K := by
 unfold VIdx
 generalize l[i.toNat]? = e
 cases e with
 | none => exact ⟨False,default,fun K => by simp⟩
 | some e =>
  obtain ⟨c,r,h⟩ := hf e
  exact ⟨0 ≤ i ∧ c,r,fun K => by simp [h,and_assoc]⟩
theorem vcIndexAddr_det {t : TypeId} {x i : SV} : Det fun K => vcIndexAddr E t x i K := by
 unfold vcIndexAddr
 cases i with
 | v i =>
  cases i <;> first | exact Det.no | skip
  simp only
  generalize E.T t = e
  rcases e with _ | ⟨d,_,_,_⟩
  ·exact Det.no
  ·cases d <;> first | exact Det.no | skip
   ·rename_i e
    simp only
    generalize E.T e = ei
    cases ei with
    | none => exact Det.no
    | some ei =>
     cases x with
     | v x =>
      cases x <;> first | exact Det.no | exact Det.leaf | skip
      exact Det.and (VIdx_det fun e => Det.one)
     | loc => exact Det.no
     | lslice => exact Det.leaf
   ·rename_i e
    simp only
    generalize E.T e = ei
    cases ei with
    | none => exact Det.no
    | some ei =>
     refine Det.and ?_
     cases x with
     | v x => cases x <;> first | exact Det.no | exact Det.leaf | exact Det.one
     | loc => exact Det.one
     | lslice => exact Det.no
 | _ => exact Det.no
theorem vcIndex_det {t : TypeId} {x i : SV} : Det fun K => vcIndex E t x i K := by
 unfold vcIndex
 cases i with
 | v i =>
  cases i <;> first | exact Det.no | skip
  simp only
  generalize E.T t = e
  cases x with
  | v x =>
   rcases e with _ | ⟨d,_,_,_⟩
   ·cases x <;> exact Det.no
   ·cases x <;> cases d <;> first | exact Det.no | exact Det.leaf | skip
    rename_i e
    simp only
    generalize E.T e = ei
    cases ei with
    | none => exact Det.no
    | some ei => exact Det.and vcFrom_det
  | _ => exact Det.no
 | _ => exact Det.no
theorem vcBuild_det {t : TypeId} {ps : List (Nat × SV)} : Det fun K => vcBuild E t ps K := by
 unfold vcBuild
 generalize E.T t = e
 cases e with
 | none => exact Det.no
 | some i => exact Det.and (Det.and (Det.some fun _ => Det.one))
theorem vcBuildSlice_det {t : TypeId} {n : Nat} {ps : List (Nat × SV)} : Det fun K => vcBuildSlice E t n ps K := by
 unfold vcBuildSlice
 generalize E.T t = e
 rcases e with _ | ⟨d,_,_,_⟩
 ·exact Det.no
 ·cases d <;> first | exact Det.no | skip
  rename_i e
  simp only
  generalize E.T e = ei
  cases ei with
  | none => exact Det.no
  | some i => exact Det.and (Det.some fun _ => Det.one)
theorem vcSliceOp_det {t : TypeId} {x : SV} {lo hi mx : Option SV} : Det fun K => vcSliceOp E t x lo hi mx K := by
 unfold vcSliceOp
 cases mx with
 | some _ => exact Det.no
 | none =>
  simp only
  generalize E.T t = e
  rcases e with _ | ⟨d,_,_,_⟩
  ·cases x with
   | v x => cases x <;> exact Det.no
   | _ => exact Det.no
  ·cases x with
   | v x =>
    cases x <;> cases d <;> first | exact Det.no | skip
    ·simp only
     generalize bound 0 lo = b1
     generalize bound _ hi = b2
     cases b1 <;> cases b2 <;> first | exact Det.no | exact Det.leaf
    ·rename_i l e
     simp only
     generalize E.T e = ei
     generalize bound 0 lo = b1
     generalize bound _ hi = b2
     cases ei <;> cases b1 <;> cases b2 <;> first | exact Det.no | exact Det.leaf
    ·rename_i e
     simp only
     generalize E.T e = ei
     generalize bound 0 lo = b1
     generalize bound _ hi = b2
     cases ei <;> cases b1 <;> cases b2 <;> first | exact Det.no | exact Det.leaf
    ·rename_i e
     simp only
     generalize E.T e = ei
     generalize bound 0 lo = b1
     generalize bound _ hi = b2
     cases ei <;> cases b1 <;> cases b2 <;> first | exact Det.no | exact Det.leaf
   | loc j off =>
    cases d <;> first | exact Det.no | skip
    rename_i e
    simp only
    generalize E.T e = ei
    generalize bound 0 lo = b1
    generalize bound _ hi = b2
    cases ei <;> cases b1 <;> cases b2 <;> first | exact Det.no | exact Det.leaf
   | lslice =>
    cases d <;> first | exact Det.no | skip
    rename_i e
    simp only
    generalize E.T e = ei
    generalize bound 0 lo = b1
    generalize bound _ hi = b2
    cases ei <;> cases b1 <;> cases b2 <;> first | exact Det.no | exact Det.leaf
theorem vcExtract_det {x : SV} {i : Nat} : Det fun K => vcExtract x i K := by
 unfold vcExtract
 cases x with
 | v x =>
  cases x <;> first | exact Det.no | skip
  rename_i l
  simp only
  generalize l[i]? = e
  cases e with
  | none => exact Det.no
  | some _ => exact Det.one
 | _ => exact Det.no
theorem vcMinMax_det {b : Builtin} {xs : List SV} : Det fun K => vcMinMax b xs K := by
 unfold vcMinMax
 cases b <;> first | exact Det.no | skip
 all_goals
  rcases xs with _ | ⟨x,_ | ⟨y,_ | ⟨z,zs⟩⟩⟩
  ·exact Det.no
  ·cases x with
   | v x => cases x <;> exact Det.no
   | _ => exact Det.no
  ·cases x with
   | v x =>
    cases y with
    | v y => cases x <;> cases y <;> first | exact Det.no | exact Det.leaf
    | _ => cases x <;> exact Det.no
   | _ => exact Det.no
  ·cases x with
   | v x =>
    cases y with
    | v y => cases x <;> cases y <;> exact Det.no
    | _ => cases x <;> exact Det.no
   | _ => exact Det.no
theorem vcAppend_det {t t2 : TypeId} {s x : SV} {o : Bool} : Det fun K => vcAppend E t t2 s x o K := by
 unfold vcAppend
 generalize E.T t = e
 rcases e with _ | ⟨d,_,_,_⟩
 ·exact Det.no
 ·cases d <;> first | exact Det.no | skip
  cases s with
  | v s =>
   cases x with
   | v x =>
    cases s <;> cases x <;> first | exact Det.no | skip
    rename_i e _ _ _ _
    simp only
    generalize E.T e = ei
    cases ei with
    | none => exact Det.no
    | some _ => exact Det.leaf
   | _ => cases s <;> exact Det.no
  | _ => exact Det.no
theorem vcLenD_det {x : SV} : Det fun K => vcLenD x K := by
 unfold vcLenD
 cases x with
 | v x => cases x <;> first | exact Det.no | exact Det.one
 | lslice => exact Det.one
 | _ => exact Det.no
theorem vcLenTD_det {t : TypeId} {x : SV} : Det fun K => vcLenTD E t x K := by
 unfold vcLenTD
 generalize E.T t = e
 rcases e with _ | ⟨d,_,_,_⟩
 ·exact Det.no
 ·cases d <;> first | exact Det.no | exact vcLenD_det | exact Det.one | skip
  cases x with
  | v x => cases x <;> first | exact Det.no | exact Det.one
  | _ => exact Det.no
end
end Go.Proofs.YtdmejgfcaacdoaaGreat.Abs
/- Statements whose order is open,part 4: what an operation does is one thing,of one kind; and nothing is written where nothing is looked at. -/
namespace Go.Proofs.YtdmejgfcaacdoaaGreat.Abs
set_option linter.unusedSimpArgs false
open Go Go.RowKit
section
variable {E : Env}
theorem Det.put {α : Type} {Q : (α → Prop) → Prop} (h : Det Q) {f : α → Eff} {K : Eff → Prop} (hq : Q fun r => K (f r)) : ∃ r,Q (fun r' => f r' = f r) ∧ K (f r) := by
 obtain ⟨c,r,h⟩ := h
 obtain ⟨h1,h2⟩ := (h _).1 hq
 exact ⟨r,(h _).2 ⟨h1,rfl⟩,h2⟩
theorem vcLenT_of {t : TypeId} {x : SV} {K : AV → Prop} (h : vcLenTD E t x K) : vcLenT E t x K := by
 unfold vcLenTD at h
 unfold vcLenT
 generalize E.T t = e at h ⊢
 rcases e with _ | ⟨d,_,_,_⟩
 ·exact h
 ·cases d <;> try exact h
  simp only at h ⊢
  unfold vcLenD at h
  unfold vcLen
  cases x with
  | v x =>
   cases x <;> try exact h
   exact fun _ => h
  | _ => exact h
theorem evD_some {o : Oper} {ρ : TypeId → Operand → SV} {ow : Operand → Bool} {loc : Nat → Option (List AV)} {mem : Mem} {K : Eff → Prop} (h : evD E o ρ ow loc mem K) :
  ∃ e,ev E o ρ ow loc mem (fun e' => e' = e) ∧ K e ∧ Shape o e := by
 obtain ⟨dst,op,type,pos,after,guard⟩ := o
 have sh : ∀ {x b},isWriter op = false → Shape ⟨dst,op,type,pos,after,guard⟩ (.put x b) := fun {x b} hw => .inr (.inr ⟨hw,x,b,rfl⟩)
 unfold evD ev at h
 unfold ev
 cases op <;> simp only at h ⊢
 case move x => exact ⟨_,rfl,h,sh rfl⟩
 case assign x => exact ⟨_,rfl,h,sh rfl⟩
 case pick c x y => obtain ⟨r,h1,h2⟩ := vcPick_det.put h; exact ⟨_,h1,h2,sh rfl⟩
 case alloc t =>
  cases dst with
  | none => exact h.2.elim
  | some d =>
   simp only at h ⊢
   obtain ⟨hs,h⟩ := h
   split at h
   ·exact ⟨_,⟨h.1,rfl⟩,h.2,.inr (.inl ⟨rfl,rfl,_,_,rfl⟩)⟩
   ·rename_i he _; rw [he] at hs; exact hs.elim
   ·exact h.elim
 case box t x =>
  obtain ⟨hs,h⟩ := h
  split at h
  ·obtain ⟨h1,h2⟩ := h
   split at h2
   ·exact ⟨_,⟨h1,rfl⟩,h2,sh rfl⟩
   ·exact ⟨_,⟨h1,h2.1,rfl⟩,h2.2,.inr (.inl ⟨rfl,rfl,_,_,rfl⟩)⟩
   ·rename_i he; simp only at hs; rw [he] at hs; exact hs.elim
  ·exact h.elim
 case makeSlice t n c =>
  cases dst with
  | none => exact h.2.elim
  | some d =>
   simp only at h ⊢
   obtain ⟨hs,h⟩ := h
   split at h
   ·rename_i he; rw [he] at hs; exact hs.elim
   ·unfold vcMakeSlice at h ⊢
    obtain ⟨h0,h⟩ := h
    split at h
    ·split at h
     ·exact ⟨_,⟨h0,h.1,rfl⟩,h.2,.inr (.inl ⟨rfl,rfl,_,_,rfl⟩)⟩
     ·exact h.elim
    ·exact h.elim
 case lookup t x k ok =>
  unfold vcLookup at h ⊢
  split at h
  ·split at h
   ·obtain ⟨f,h0,h⟩ := h
    simp only at h
    split at h
    ·rename_i y val heq
     exact ⟨.put (.v (if ok = true then .tuple [y,.bool true] else y)) false,⟨some y,h0,by simp only [heq]⟩,h,sh rfl⟩
    ·rename_i i heq
     exact ⟨.put (.v (if ok = true then .tuple [zeroOf i,.bool false] else zeroOf i)) false,⟨none,h0,by simp only [heq]⟩,h,sh rfl⟩
    ·exact h.elim
   ·exact h.elim
  ·obtain ⟨h0,h⟩ := h
   split at h
   ·split at h
    ·exact ⟨_,⟨h0,rfl⟩,h,sh rfl⟩
    ·exact ⟨_,⟨h0,rfl⟩,h,sh rfl⟩
    ·exact h.elim
   ·exact h.elim
  ·exact h.elim
 case mapUpdate t x k y =>
  unfold vcMapUpdate at h ⊢
  split at h
  ·split at h
   ·exact ⟨_,⟨h.1,rfl⟩,h.2,.inl ⟨rfl,.inr ⟨_,_,rfl⟩⟩⟩
   ·exact h.elim
  ·obtain ⟨h0,h⟩ := h
   split at h
   ·exact ⟨_,⟨h0,h.1,rfl⟩,h.2,.inl ⟨rfl,.inr ⟨_,_,rfl⟩⟩⟩
   ·exact h.elim
  ·exact h.elim
 case store t p x =>
  obtain ⟨e,h1,h2⟩ := vcStore_det.get h
  refine ⟨e,h1,h2,.inl ⟨rfl,?_⟩⟩
  unfold vcStore at h1
  split at h1
  ·split at h1
   ·obtain ⟨r,h3,h4⟩ := vcStoreAt_det.get h1
    exact .inl ⟨_,_,h4.symm⟩
   ·exact h1.elim
  ·split at h1
   ·obtain ⟨r,h3,h4⟩ := vcStoreAt_det.get h1
    exact .inr ⟨_,_,h4.symm⟩
   ·exact h1.elim
  ·exact h1.elim
 case build t parts => obtain ⟨r,h1,h2⟩ := vcBuild_det.put (f := fun r => .put (.v r) false) h; exact ⟨_,h1,h2,sh rfl⟩
 case buildSlice t len parts => obtain ⟨r,h1,h2⟩ := vcBuildSlice_det.put (f := fun r => .put (.v r) true) h.2; exact ⟨_,⟨h.1,h1⟩,h2,sh rfl⟩
 case load t x => obtain ⟨r,h1,h2⟩ := vcLoad_det.put (f := fun r => .put (.v r) false) h; exact ⟨_,h1,h2,sh rfl⟩
 case nilCheck x => obtain ⟨r,h1,h2⟩ := vcNil_det.put (f := fun r => .put r false) h; exact ⟨_,h1,h2,sh rfl⟩
 case binOp op t x y yt => obtain ⟨r,h1,h2⟩ := vcBin_det.put (f := fun r => .put (.v r) false) h; exact ⟨_,h1,h2,sh rfl⟩
 case unOp op t x => obtain ⟨r,h1,h2⟩ := vcUn_det.put (f := fun r => .put (.v r) false) h; exact ⟨_,h1,h2,sh rfl⟩
 case convert s d x => obtain ⟨r,h1,h2⟩ := vcConvert_det.put (f := fun r => .put (.v r) false) h; exact ⟨_,h1,h2,sh rfl⟩
 case makeFunc f first caps =>
  have hd : Det fun K : Eff → Prop => vcSome (avs (first.toList.map (ρ 0))) fun fs => vcSome (avs (caps.toList.map (ρ 0))) fun cs => K (.put (.v (.fn f fs cs)) false) := Det.some fun _ => Det.some fun _ => Det.one
  have hm := hd.holds (P := fun e => ∃ r,e = .put r false) (by
   unfold vcSome at h ⊢
   split at h
   ·split at h
    ·exact ⟨_,rfl⟩
    ·exact h.elim
   ·exact h.elim) h
  obtain ⟨e,h1,⟨r,rfl⟩,h2⟩ := hd.get (K := fun x => (∃ r,x = Eff.put r false) ∧ K x) hm
  exact ⟨_,h1,h2,sh rfl⟩
 case slice t x lo hi mx => obtain ⟨r,h1,h2⟩ := vcSliceOp_det.put (f := fun r => .put r false) h; exact ⟨_,h1,h2,sh rfl⟩
 case fieldAddr s x f => obtain ⟨r,h1,h2⟩ := vcFieldAddr_det.put (f := fun r => .put r false) h; exact ⟨_,h1,h2,sh rfl⟩
 case field s x f => obtain ⟨r,h1,h2⟩ := vcField_det.put (f := fun r => .put (.v r) false) h; exact ⟨_,h1,h2,sh rfl⟩
 case indexAddr t x i => obtain ⟨r,h1,h2⟩ := vcIndexAddr_det.put (f := fun r => .put r false) h; exact ⟨_,h1,h2,sh rfl⟩
 case index t x i => obtain ⟨r,h1,h2⟩ := vcIndex_det.put (f := fun r => .put (.v r) false) h; exact ⟨_,h1,h2,sh rfl⟩
 case extract x i => obtain ⟨r,h1,h2⟩ := vcExtract_det.put (f := fun r => .put (.v r) false) h; exact ⟨_,h1,h2,sh rfl⟩
 case call c =>
  generalize c.callee = cl at h ⊢
  cases cl <;> simp only at h ⊢ <;> try exact h.elim
  rename_i b
  obtain ⟨h0,h⟩ := h
  unfold vcBuiltinD at h
  unfold vcBuiltin
  cases b <;> simp only at h ⊢ <;> try exact h.elim
  case len =>
   split at h
   ·rename_i he1 he2
    rw [he1] at he2
    rw [he1,he2]
    obtain ⟨r,h1,h2⟩ := vcLenTD_det.put (f := fun r => .put (.v r) false) h; exact ⟨_,⟨h0,vcLenT_of h1⟩,h2,sh rfl⟩
   ·exact h.elim
  case append =>
   unfold vcBuiltin at h
   simp only at h
   split at h
   ·obtain ⟨r,h1,h2⟩ := vcAppend_det.put (f := fun r => .put (.v r) true) h; exact ⟨_,⟨h0,h1⟩,h2,sh rfl⟩
   ·exact h.elim
  case min =>
   unfold vcBuiltin at h
   simp only at h
   obtain ⟨r,h1,h2⟩ := vcMinMax_det.put (f := fun r => .put (.v r) false) h; exact ⟨_,⟨h0,h1⟩,h2,sh rfl⟩
  case max =>
   unfold vcBuiltin at h
   simp only at h
   obtain ⟨r,h1,h2⟩ := vcMinMax_det.put (f := fun r => .put (.v r) false) h; exact ⟨_,⟨h0,h1⟩,h2,sh rfl⟩
  all_goals
   unfold vcBuiltin at h
   exact h.elim
theorem ev_blind {o : Oper} {ρ : TypeId → Operand → SV} {ow : Operand → Bool} {K : Eff → Prop} (h : ev E o ρ ow noneF noneF K) : isWriter o.op = false := by
 obtain ⟨dst,op,type,pos,after,guard⟩ := o
 cases op <;> try rfl
 ·unfold ev vcStore at h
  simp only at h
  split at h
  ·exact h.elim
  ·exact h.elim
  ·exact h.elim
 ·unfold ev vcMapUpdate at h
  simp only at h
  split at h
  ·exact h.elim
  ·exact h.2.elim
  ·exact h.elim
end
end Go.Proofs.YtdmejgfcaacdoaaGreat.Abs
/- Statements whose order is open,part 5: two operations that nothing orders can change places; so any order does what the text's order does. -/
namespace Go.Proofs.YtdmejgfcaacdoaaGreat.Abs
set_option linter.unusedSimpArgs false
open Go Go.RowKit
section
variable {E : Env}
theorem takes_mem {o : Oper} {t : Tmp} (h : takes o = some (.tmp t)) : Operand.tmp t ∈ o.op.operands := by
 unfold takes at h
 split at h
 ·rename_i hop; rw [hop]; simp [Op.operands] at h ⊢; exact h.symm
 ·rename_i hop; rw [hop]; simp [Op.operands] at h ⊢; exact h.symm
 ·rename_i c hop
  split at h
  ·rename_i hb
   rw [hop]
   simp only [Op.operands,Call.operands,hb]
   have := List.mem_of_mem_head? (by rw [h]; rfl : Operand.tmp t ∈ c.args.toList.head?)
   simpa using this
  ·cases h
 ·cases h
theorem looks_op {ops : Array Oper} {o : Oper} {t : Tmp} (h : Operand.tmp t ∈ o.op.operands) : t ∈ o.looksAt ops := by
 unfold Oper.looksAt
 rw [List.mem_append]
 refine .inl ?_
 rw [List.mem_filterMap]
 exact ⟨.tmp t,by simpa using h,rfl⟩
theorem looks_guard {ops : Array Oper} {o : Oper} {j : Nat} {want : Bool} {d : Tmp} (hg : o.guard = some (j,want)) (hd : gslot ops j = some d) : d ∈ o.looksAt ops := by
 unfold Oper.looksAt
 rw [List.mem_append]
 refine .inr ?_
 rw [hg]
 simp only
 rw [show (ops[j]?).bind (·.dst) = some d from hd]
 simp
theorem sv_congr {st st' : St} {ty : TypeId} {x : Operand} (h : ∀ t,x = .tmp t → st'.vals t = st.vals t) : st'.sv E.T ty x = st.sv E.T ty x := by
 cases x with
 | tmp t => exact h t rfl
 | _ => rfl
theorem ow_congr {st st' : St} {x : Operand} (h : ∀ t,x = .tmp t → st'.own t = st.own t) : st'.ow x = st.ow x := by
 cases x with
 | tmp t => exact h t rfl
 | const v =>
  unfold St.ow
  cases v <;> try rfl
  rename_i p n m
  cases p <;> try rfl
  cases n <;> try rfl
  cases m <;> rfl
 | _ => rfl
theorem dact_move {lin : Nat → Bool} {hide : Bool} {k : Nat} {ops : Array Oper} {o : Oper} {st st' : St} {tk : Option Nat} {e : Eff} (hv : ∀ t ∈ o.looksAt ops,st'.vals t = st.vals t) (ho : ∀ t ∈ o.looksAt ops,st'.own t = st.own t)
  (hm : hide = false → (st'.loc = st.loc ∨ isCallV o = true) ∧ st'.mem = st.mem) (hm3 : hidM o k st' = hidM o k st) (hn : ∀ d,o.dst = some d → (∃ c sl,e = .new c sl) → Shape o e → st.loc d = none → st'.loc d = none) (h : DAct E lin hide k ops o st tk e) : DAct E lin hide k ops o st' tk e := by
 have hsv : ∀ x ∈ o.op.operands,∀ ty,st'.sv E.T ty x = st.sv E.T ty x := fun x hx ty => sv_congr fun t ht => hv t (looks_op (ht ▸ hx))
 have how : ∀ x ∈ o.op.operands,st'.ow x = st.ow x := fun x hx => ow_congr fun t ht => ho t (looks_op (ht ▸ hx))
 have hg : ∀ b,DGuard ops o st b → DGuard ops o st' b := by
  intro b h
  unfold DGuard at h ⊢
  split at h
  ·exact h
  ·rename_i j want hgu
   split at h
   ·exact h.elim
   ·rename_i d hd
    rw [hv d (looks_guard hgu hd)]
    exact h
 rcases h with ⟨h1,h⟩ | ⟨h1,h⟩
 ·refine .inl ⟨hg _ h1,?_⟩
  rcases h with ⟨h2,h3,h4,h5⟩ | ⟨x,hx,h2,h3⟩ | ⟨c,f,g,first,caps,ys,r,hop,hcf,hlen,hfe,hys,hp,h2,h3⟩ | ⟨hk,hh,c,f,g,first,caps,ys,r,m1,hop,hcf,hlen,hfe,hys,hp,h2,h3⟩
  ·refine .inl ⟨?_,h3,h4,fun d hd hnew => hn d hd hnew h3 (h5 d hd hnew)⟩
   have := ev_congr (ρ' := st'.sv E.T) (ow' := st'.ow) (loc' := if hide = true then noneF else st.loc) (fun x hx ty => (hsv x hx ty).symm) (fun x hx => (how x hx).symm) (fun _ _ => rfl) h2
   cases hide with
   | true => rw [hm3]; exact this
   | false =>
    obtain ⟨e1,e2⟩ := hm rfl
    rcases e1 with e1 | e1
    ·rw [e1,e2]; exact this
    ·exfalso
     unfold isCallV at e1
     unfold ev at h2
     split at e1
     ·rename_i c hop
      rw [hop] at h2
      split at e1
      ·rename_i x hcf
       simp only [hcf] at h2
      ·cases e1
     ·cases e1
  ·refine .inr (.inl ⟨x,hx,h2,?_⟩)
   rw [hsv x (by rcases hx with hx | hx <;> rw [hx] <;> simp [Op.operands])]
   exact h3
  ·refine .inr (.inr (.inl ⟨c,f,g,first,caps,ys,r,hop,hcf,hlen,?_,?_,hp.imp id fun ⟨q,hq⟩ => ⟨q,by rw [(hm q).2]; exact hq⟩,h2,h3⟩))
   ·rw [hsv f (by rw [hop]; simp [Op.operands,Call.operands,hcf])]; exact hfe
   ·rw [zip_congr (ρ := st'.sv E.T) (ρ' := st.sv E.T) fun x hx ty => hsv x (by rw [hop]; simp [Op.operands,Call.operands,hcf]; exact .inr (by simpa using hx)) ty]; exact hys
  ·refine .inr (.inr (.inr ⟨hk,hh,c,f,g,first,caps,ys,r,m1,hop,hcf,hlen,?_,?_,?_,h2,h3⟩))
   ·rw [hsv f (by rw [hop]; simp [Op.operands,Call.operands,hcf])]; exact hfe
   ·rw [zip_congr (ρ := st'.sv E.T) (ρ' := st.sv E.T) fun x hx ty => hsv x (by rw [hop]; simp [Op.operands,Call.operands,hcf]; exact .inr (by simpa using hx)) ty]; exact hys
   ·rw [(hm hh).2]; exact hp
 ·exact .inr ⟨hg _ h1,h⟩
theorem DAct.take {lin : Nat → Bool} {hide : Bool} {k : Nat} {ops : Array Oper} {o : Oper} {st : St} {tk : Option Nat} {e : Eff} (h : DAct E lin hide k ops o st tk e) : ∀ t,tk = some t → lin t = true ∧ t ∈ o.looksAt ops := by
 intro t ht
 subst ht
 rcases h with ⟨_,h⟩ | ⟨_,h,_⟩
 ·rcases h with ⟨_,_,h,_⟩ | ⟨_,_,h,_⟩ | ⟨_,_,_,_,_,_,_,_,_,_,_,_,_,h,_⟩ | ⟨_,_,_,_,_,_,_,_,_,_,_,_,_,_,_,_,h,_⟩
  ·split at h
   ·rename_i x hx
    obtain ⟨h1,h2⟩ := h
    injection h2 with h2
    subst h2
    exact ⟨h1,looks_op (takes_mem hx)⟩
   ·cases h
  ·cases h
  ·cases h
  ·cases h
 ·cases h
theorem DAct.kind {lin : Nat → Bool} {hide : Bool} {k : Nat} {ops : Array Oper} {o : Oper} {st : St} {tk : Option Nat} {e : Eff} (h : DAct E lin hide k ops o st tk e) :
  (∃ x b,e = .put x b) ∨ (isNewer o.op = true ∧ ∃ c sl,e = .new c sl) ∨ ((isWriter o.op = true ∨ k = 1 ∨ k = 2) ∧ hide = false ∧ ((isWriter o.op = true ∧ ((∃ i c,e = .set i c) ∨ (∃ b x,e = .mset b x))) ∨ ∃ x m,e = .call x m)) := by
 rcases h with ⟨_,h⟩ | ⟨_,_,h⟩
 ·rcases h with ⟨h,h',_,_⟩ | ⟨_,_,_,h⟩ | ⟨_,_,_,_,_,_,_,_,_,_,_,_,_,_,h⟩ | ⟨hk,hh,_,_,_,_,_,_,_,_,_,_,_,_,_,_,_,h⟩
  ·rcases h' with ⟨h1,h2⟩ | ⟨_,h1,h2⟩ | ⟨_,h2⟩
   ·refine .inr (.inr ⟨.inl h1,?_,.inl ⟨h1,h2⟩⟩)
    cases hide with
    | false => rfl
    | true =>
     have hnl : isLook o.op = false := by
      generalize o.op = op at h1 ⊢
      cases op <;> first | rfl | cases h1
     have e : (if true = true then (if k = 0 then noneF else hidM o k st) else st.mem) = noneF := by
      have e1 : hidM o k st = noneF := by unfold hidM; rw [if_neg (by rw [hnl]; decide)]
      rw [if_pos rfl,e1,ite_self]
     rw [e,if_pos rfl] at h
     have := ev_blind h
     rw [h1] at this; cases this
   ·exact .inr (.inl ⟨h1,h2⟩)
   ·exact .inl h2
  ·exact .inl ⟨_,_,h⟩
  ·exact .inl ⟨_,_,h⟩
  ·exact .inr (.inr ⟨.inr (.inl hk),hh,.inr ⟨_,_,h⟩⟩)
 ·exact .inl ⟨_,_,h⟩
theorem DAct.store {lin : Nat → Bool} {hide : Bool} {k : Nat} {ops : Array Oper} {o : Oper} {st : St} {tk : Option Nat} {e : Eff} (h : DAct E lin hide k ops o st tk e) {s : Nat} (hs : storesAt o s = true) :
  (∃ x b,e = .put x b) ∨ (∃ i c,e = .set i c) ∨ ∃ b off x,e = .mset b x ∧ st.vals s = .v (.ptr b off) := by
 unfold storesAt at hs
 split at hs
 ·rename_i ty t x hop
  have ht : t = s := by simpa using hs
  subst ht
  rcases h with ⟨_,h⟩ | ⟨_,_,h⟩
  ·rcases h with ⟨h,_,_,_⟩ | ⟨y,hy,_,h⟩ | ⟨c,_,_,_,_,_,_,hc,_⟩ | ⟨_,_,c,_,_,_,_,_,_,_,hc,_⟩
   ·unfold ev at h
    rw [hop] at h
    simp only at h
    unfold vcStore at h
    have hsv : st.sv E.T 0 (.tmp t) = st.vals t := rfl
    split at h
    ·split at h
     ·obtain ⟨r,h3,h4⟩ := vcStoreAt_det.get h
      exact .inr (.inl ⟨_,_,h4.symm⟩)
     ·exact h.elim
    ·rename_i b off y hb hx
     split at h
     ·obtain ⟨r,h3,h4⟩ := vcStoreAt_det.get h
      exact .inr (.inr ⟨_,_,_,h4.symm,by rw [← hsv,hb]⟩)
     ·exact h.elim
    ·exact h.elim
   ·rcases hy with hy | hy <;> rw [hop] at hy <;> cases hy
   ·rw [hop] at hc; cases hc
   ·rw [hop] at hc; cases hc
  ·exact .inl ⟨_,_,h⟩
 ·cases hs
def Calm (oj : Oper) (kj ki : Nat) : Prop := ((isWriter oj.op = true ∨ kj = 1 ∨ kj = 2) → ki ≠ 3 ∧ (4 ≤ ki → (kj ≠ 1 ∧ kj ≠ 2) ∧ storesAt oj (ki - 4) = true)) ∧ (4 ≤ ki → oj.dst ≠ some (ki - 4))
structure PairOk (lin : Nat → Bool) (ops : Array Oper) (oi oj : Oper) (hi hj : Bool) (ki kj : Nat) : Prop where
 ap : oi.apart ops oj = true
 l1 : loud kj oj = true → hi = true
 l2 : loud ki oi = true → hj = true ∨ ((isWriter oi.op = false ∧ ki ≠ 1 ∧ ki ≠ 2) ∧ isCallV oj = true)
 m1 : Calm oj kj ki
 m2 : Calm oi ki kj
 li : ∀ t,lin t = true → t ∈ oi.looksAt ops → t ∉ oj.looksAt ops
theorem valsU_ne {d : Option Tmp} {e : Eff} {v : Nat → SV} {t : Nat} (h : d ≠ some t) : valsU d e v t = v t := by
 unfold valsU
 cases d with
 | none => rfl
 | some d =>
  have h' : t ≠ d := fun h' => h (by rw [h'])
  cases e <;> simp only [upd,if_neg h']
theorem ownU_ne {d : Option Tmp} {tk : Option Nat} {e : Eff} {o : Nat → Bool} {t : Nat} (h : d ≠ some t) (h' : tk ≠ some t) : ownU d tk e o t = o t := by
 unfold ownU
 have h2 : (match tk with | some t => upd o t false | none => o) t = o t := by
  cases tk with
  | none => rfl
  | some k =>
   have : t ≠ k := fun e => h' (by rw [e])
   simp only [upd,if_neg this]
 cases d with
 | none => exact h2
 | some d =>
  have h3 : t ≠ d := fun e => h (by rw [e])
  cases e <;> simp only [upd,if_neg h3] <;> exact h2
theorem valsU_comm {d d' : Option Tmp} {e e' : Eff} {v : Nat → SV} (h : ∀ t,d = some t → d' ≠ some t) : valsU d e (valsU d' e' v) = valsU d' e' (valsU d e v) := by
 funext t
 by_cases h1 : d = some t
 ·rw [valsU_ne (d := d') (h t h1)]
  subst h1
  unfold valsU
  cases e <;> simp [upd]
 ·rw [valsU_ne h1]
  by_cases h2 : d' = some t
  ·subst h2
   unfold valsU
   cases e' <;> simp [upd]
  ·rw [valsU_ne h2,valsU_ne h2,valsU_ne h1]
theorem ownU_comm {d d' : Option Tmp} {tk tk' : Option Nat} {e e' : Eff} {o : Nat → Bool} (h : ∀ t,d = some t → d' ≠ some t) (h1 : ∀ t,tk = some t → d' ≠ some t) (h2 : ∀ t,tk' = some t → d ≠ some t) :
  ownU d tk e (ownU d' tk' e' o) = ownU d' tk' e' (ownU d tk e o) := by
 have none_ : ∀ (d : Option Tmp) (tk : Option Nat) (e : Eff) (o : Nat → Bool) (t : Nat),d ≠ some t → ownU d tk e o t = if tk = some t then false else o t := by
  intro d tk e o t hd
  by_cases hk : tk = some t
  ·rw [if_pos hk]
   subst hk
   unfold ownU
   cases d with
   | none => simp [upd]
   | some d =>
    have h3 : t ≠ d := fun e => hd (by rw [e])
    cases e <;> simp [upd,h3]
  ·rw [if_neg hk]; exact ownU_ne hd hk
 have some_ : ∀ (tk : Option Nat) (e : Eff) (o o' : Nat → Bool) (t : Nat),ownU (some t) tk e o t = ownU (some t) tk e o' t := by
  intro tk e o o' t
  unfold ownU
  cases e <;> simp [upd]
 funext t
 by_cases a1 : d = some t
 ·subst a1
  have a2 : d' ≠ some t := h t rfl
  rw [none_ d' tk' e' _ t a2]
  have a3 : tk' ≠ some t := fun e => h2 t e rfl
  rw [if_neg a3]
  exact some_ _ _ _ _ _
 ·rw [none_ d tk e _ t a1]
  by_cases a2 : d' = some t
  ·subst a2
   have a3 : tk ≠ some t := fun e => h1 t e rfl
   rw [if_neg a3]
   exact some_ _ _ _ _ _
  ·rw [none_ d' tk' e' _ t a2,none_ d' tk' e' _ t a2,none_ d tk e _ t a1]
   split <;> split <;> rfl
theorem upd_comm {α : Type} {f : Nat → α} {i j : Nat} {x y : α} (h : i ≠ j) : upd (upd f i x) j y = upd (upd f j y) i x := by
 funext k
 unfold upd
 by_cases h1 : k = j
 ·subst h1
  rw [if_pos rfl,if_neg (Ne.symm h),if_pos rfl]
 ·rw [if_neg h1]
  by_cases h2 : k = i
  ·rw [if_pos h2,if_pos h2]
  ·rw [if_neg h2,if_neg h2,if_neg h1]
theorem loud_of {k : Nat} {o : Oper} (h : isWriter o.op = true ∨ k = 1 ∨ k = 2) : loud k o = true := by
 unfold loud
 rcases h with h | rfl | rfl
 ·simp [h]
 ·simp
 ·simp
theorem loud_new {k : Nat} {o : Oper} (h : isNewer o.op = true) : loud k o = true := by simp [loud,h]
theorem hidM_calm {oi oj : Oper} {ki kj : Nat} {st : St} {tkj : Option Nat} {ej : Eff} (hc : Calm oj kj ki)
  (hk : (∃ x b,ej = .put x b) ∨ (isNewer oj.op = true ∧ ∃ c sl,ej = .new c sl) ∨ (isWriter oj.op = true ∨ kj = 1 ∨ kj = 2))
  (hs : ∀ s,storesAt oj s = true → (∃ x b,ej = .put x b) ∨ (∃ i c,ej = .set i c) ∨ ∃ b off x,ej = .mset b x ∧ st.vals s = .v (.ptr b off)) : hidM oi ki (DTo oj tkj ej st) = hidM oi ki st := by
 unfold hidM
 split
 ·have hmem : (¬ (isWriter oj.op = true ∨ kj = 1 ∨ kj = 2)) → memU ej st.mem = st.mem := fun q => by
   rcases hk with ⟨x,b,rfl⟩ | ⟨_,c,sl,rfl⟩ | hk
   ·rfl
   ·rfl
   ·exact absurd hk q
  by_cases k3 : ki = 3
  ·rw [if_pos k3,if_pos k3]
   exact hmem fun q => (hc.1 q).1 k3
  ·rw [if_neg k3,if_neg k3]
   split
   ·rename_i h4
    have hv : (DTo oj tkj ej st).vals (ki - 4) = st.vals (ki - 4) := valsU_ne (hc.2 h4)
    rw [hv]
    show maskM _ (memU ej st.mem) = _
    by_cases q : isWriter oj.op = true ∨ kj = 1 ∨ kj = 2
    ·rcases hs _ ((hc.1 q).2 h4).2 with ⟨x,b,rfl⟩ | ⟨i,c,rfl⟩ | ⟨b,off,x,rfl,hb⟩
     ·rfl
     ·rfl
     ·rw [hb]
      show upd (upd st.mem b (some x)) b none = upd st.mem b none
      funext k
      unfold upd
      split <;> rfl
    ·rw [hmem q]
   ·rfl
 ·rfl
theorem DActS.cases {lin : Nat → Bool} {hide : Bool} {k : Nat} {ops : Array Oper} {o : Oper} {st : St} {S : Option Nat → Eff → Prop} (h : DActS E lin hide k ops o st S) :
  (∃ tk e,DAct E lin hide k ops o st tk e ∧ S tk e) ∨ (k = 2 ∧ hide = false ∧ DGuard ops o st true ∧ ∃ c f,o.op = .call c ∧ c.callee = .value f ∧ c.argTypes.toList.length = c.args.toList.length ∧
  vcCallS E (st.sv E.T 0 f) ((c.argTypes.toList.zip c.args.toList).map fun p => st.sv E.T p.1 p.2) st.mem S) ∨ (k = 2 ∧ hide = false ∧ DGuard ops o st true ∧ (∀ s,storesAt o s = false) ∧ vcAppE E o st (S none)) := h
theorem locU_none {d : Option Tmp} {e : Eff} {l : Nat → Option (List AV)} {t : Nat} (h : locU d e l t = none) : l t = none := by
 have up : ∀ {k : Nat} {c : List AV},upd l k (some c) t = none → l t = none := by
  intro k c h
  unfold upd at h
  split at h
  ·cases h
  ·exact h
 unfold locU at h
 cases e with
 | set i c => exact up h
 | setp x i c => exact up h
 | new c sl =>
  cases d with
  | none => exact h
  | some k => exact up h
 | _ => exact h
theorem dact_back {lin : Nat → Bool} {ops : Array Oper} {oi oj : Oper} {hi hj : Bool} {ki kj : Nat} {st : St} {tki : Option Nat} {ei : Eff} (hp : PairOk lin ops oi oj hi hj ki kj) (h : DAct E lin hi ki ops oi st tki ei) :
  (∀ t ∈ oj.looksAt ops,st.vals t = (DTo oi tki ei st).vals t) ∧ (∀ t ∈ oj.looksAt ops,st.own t = (DTo oi tki ei st).own t) ∧ (hj = false → (st.loc = (DTo oi tki ei st).loc ∨ isCallV oj = true) ∧ st.mem = (DTo oi tki ei st).mem) ∧ hidM oj kj st = hidM oj kj (DTo oi tki ei st) := by
 obtain ⟨a1,a2,a3⟩ := Oper.apart_spec hp.ap
 refine ⟨fun t ht => (valsU_ne fun e => a1 t e ht).symm,fun t ht => (ownU_ne (fun e => a1 t e ht) fun e => ?_).symm,fun e => ?_,(hidM_calm hp.m2 (h.kind.imp id (Or.imp id (·.1))) fun s hs => h.store hs).symm⟩
 ·obtain ⟨k1,k2⟩ := h.take t e
  exact hp.li t k1 k2 ht
 ·rcases h.kind with ⟨x,b,rfl⟩ | ⟨k,_⟩ | ⟨k,_⟩
  ·exact ⟨.inl rfl,rfl⟩
  ·rename_i hn
   obtain ⟨c,sl,rfl⟩ := hn
   rcases hp.l2 (loud_new k) with q | q
   ·rw [q] at e; cases e
   ·exact ⟨.inr q.2,rfl⟩
  ·rcases hp.l2 (loud_of k) with q | q
   ·rw [q] at e; cases e
   ·exfalso
    rcases k with k | k | k
    ·rw [q.1.1] at k; cases k
    ·exact q.1.2.1 k
    ·exact q.1.2.2 k
theorem dact_on {lin : Nat → Bool} {ops : Array Oper} {oi oj : Oper} {hi hj : Bool} {ki kj : Nat} {st : St} {tki tkj : Option Nat} {ei ej : Eff} (hp : PairOk lin ops oi oj hi hj ki kj) (h : DAct E lin hi ki ops oi st tki ei)
  (htk : ∀ t,tkj = some t → lin t = true ∧ t ∈ oj.looksAt ops)
  (kj' : (∃ x b,ej = .put x b) ∨ (isNewer oj.op = true ∧ ∃ c sl,ej = .new c sl) ∨ ((isWriter oj.op = true ∨ kj = 1 ∨ kj = 2) ∧ hj = false ∧ ((isWriter oj.op = true ∧ ((∃ i c,ej = .set i c) ∨ (∃ b x,ej = .mset b x))) ∨ ∃ x m,ej = .call x m)))
  (hsj : ∀ s,storesAt oj s = true → (∃ x b,ej = .put x b) ∨ (∃ i c,ej = .set i c) ∨ ∃ b off x,ej = .mset b x ∧ st.vals s = .v (.ptr b off)) :
  DAct E lin hi ki ops oi (DTo oj tkj ej st) tki ei ∧ DTo oj tkj ej (DTo oi tki ei st) = DTo oi tki ei (DTo oj tkj ej st) := by
 obtain ⟨a1,a2,a3⟩ := Oper.apart_spec hp.ap
 have ki' := h.kind
 have quietj : hi = false → ∃ x b,ej = .put x b := fun e => by
  rcases kj' with k | ⟨k,_⟩ | ⟨k,_⟩
  ·exact k
  ·rw [hp.l1 (loud_new k)] at e; cases e
  ·rw [hp.l1 (loud_of k)] at e; cases e
 constructor
 ·refine dact_move (fun t ht => ?_) (fun t ht => ?_) (fun e => ?_) (hidM_calm hp.m1 (kj'.imp id (Or.imp id (·.1))) hsj) (fun d hd hn hs hl => ?_) h
  ·exact valsU_ne fun e => a3 t e ht
  ·refine ownU_ne (fun e => a3 t e ht) fun e => ?_
   obtain ⟨k1,k2⟩ := htk t e
   exact hp.li t k1 ht k2
  ·obtain ⟨x,b,rfl⟩ := quietj e
   exact ⟨.inl rfl,rfl⟩
  ·show locU oj.dst ej st.loc d = none
   have hloud : loud ki oi = true := by
    obtain ⟨c,sl,rfl⟩ := hn
    rcases ki' with ⟨_,_,k⟩ | ⟨k,_⟩ | ⟨k,_⟩
    ·cases k
    ·exact loud_new k
    ·exact loud_of k
   rcases kj' with ⟨x,b,rfl⟩ | ⟨_,c,sl,rfl⟩ | ⟨_,k,kk⟩
   ·exact hl
   ·unfold locU
    cases hd' : oj.dst with
    | none => exact hl
    | some d' =>
     have : d ≠ d' := fun e => a2 d hd (by rw [hd',e])
     show upd st.loc d' (some c) d = none
     rw [upd,if_neg this]; exact hl
   ·rcases hp.l2 hloud with q | q
    ·rw [q] at k; cases k
    ·rcases kk with ⟨kw,_⟩ | ⟨x,m,rfl⟩
     ·exfalso
      have q2 := q.2
      unfold isCallV at q2
      split at q2
      ·rename_i c hop
       rw [hop] at kw; cases kw
      ·cases q2
     ·exact hl
 ·unfold DTo
  have e1 := valsU_comm (e := ej) (e' := ei) (v := st.vals) (fun t ht => fun h => a2 t h ht : ∀ t,oj.dst = some t → oi.dst ≠ some t)
  have e2 := ownU_comm (tk := tkj) (tk' := tki) (e := ej) (e' := ei) (o := st.own) (fun t ht => fun h => a2 t h ht : ∀ t,oj.dst = some t → oi.dst ≠ some t)
   (fun t ht hd => a1 t hd (htk t ht).2) (fun t ht hd => a3 t hd (h.take t ht).2)
  simp only [e1,e2,St.mk.injEq,true_and]
  rcases ki' with ⟨x,b,rfl⟩ | ⟨li,c,sl,rfl⟩ | ⟨li,hi0,ki'⟩
  ·exact ⟨rfl,rfl⟩
  ·rcases kj' with ⟨x,b,rfl⟩ | ⟨_,c',sl',rfl⟩ | ⟨_,k,kk⟩
   ·exact ⟨rfl,rfl⟩
   ·refine ⟨?_,rfl⟩
    unfold locU
    cases hd : oi.dst with
    | none => cases hd' : oj.dst <;> rfl
    | some d =>
     cases hd' : oj.dst with
     | none => rfl
     | some d' => exact upd_comm fun e => a2 d hd (by rw [hd',e])
   ·rcases hp.l2 (loud_new li) with q | q
    ·rw [q] at k; cases k
    ·rcases kk with ⟨kw,_⟩ | ⟨x,m,rfl⟩
     ·exfalso
      have q2 := q.2
      unfold isCallV at q2
      split at q2
      ·rename_i c hop
       rw [hop] at kw; cases kw
      ·cases q2
     ·exact ⟨rfl,rfl⟩
  ·rcases kj' with ⟨x,b,rfl⟩ | ⟨k,_⟩ | ⟨k,_⟩
   ·exact ⟨rfl,rfl⟩
   ·rw [hp.l1 (loud_new k)] at hi0; cases hi0
   ·rw [hp.l1 (loud_of k)] at hi0; cases hi0
theorem dguard_congr {ops : Array Oper} {o : Oper} {st st' : St} {b : Bool} (hv : ∀ t ∈ o.looksAt ops,st'.vals t = st.vals t) (h : DGuard ops o st b) : DGuard ops o st' b := by
 unfold DGuard at h ⊢
 split at h
 ·exact h
 ·rename_i j want hgu
  split at h
  ·exact h.elim
  ·rename_i d hd
   rw [hv d (looks_guard hgu hd)]
   exact h
theorem vcCallS_mono {f : SV} {xs : List SV} {mem : Mem} {S S' : Option Nat → Eff → Prop} (h : vcCallS E f xs mem S) (hs : ∀ x m,S none (.call x m) → S' none (.call x m)) : vcCallS E f xs mem S' := by
 unfold vcCallS at h ⊢
 split at h
 ·exact h.mono fun r m' => hs r m'
 ·refine ⟨fun G w vs h1 h2 h3 => ?_⟩
  obtain ⟨f,tmps,assign,body,hy,hr⟩ := h.does G w vs h1 h2 h3
  exact ⟨f,tmps,assign,body,hy,hr.mono fun e w' ⟨v,r,m',G',he,hx,hi,hm,hr,hK⟩ => ⟨v,r,m',G',he,hx,hi,hm,hr,hs _ _ hK⟩⟩
 ·exact h.elim
theorem dswap {lin : Nat → Bool} {ops : Array Oper} {oi oj : Oper} {hi hj : Bool} {ki kj : Nat} {st : St} {tki : Option Nat} {ei : Eff} {S : Option Nat → Eff → Prop} (hp : PairOk lin ops oi oj hi hj ki kj) (h : DAct E lin hi ki ops oi st tki ei)
  (h' : DActS E lin hj kj ops oj (DTo oi tki ei st) S) :
  DActS E lin hj kj ops oj st fun tkj ej => S tkj ej ∧ DAct E lin hi ki ops oi (DTo oj tkj ej st) tki ei ∧ DTo oj tkj ej (DTo oi tki ei st) = DTo oi tki ei (DTo oj tkj ej st) := by
 obtain ⟨b1,b2,b3,b4⟩ := dact_back hp h
 rcases h' with ⟨tkj,ej,h',hS⟩ | ⟨k2,hh,hg,c,f,hop,hcf,hlen,h'⟩ | ⟨k2,hh,hg,hst,h'⟩
 ·have r1 : DAct E lin hj kj ops oj st tkj ej := dact_move b1 b2 b3 b4 (fun d hd hn hs hl => locU_none hl) h'
  exact .inl ⟨tkj,ej,r1,hS,dact_on hp h r1.take r1.kind fun s hs => r1.store hs⟩
 ·refine .inr (.inl ⟨k2,hh,dguard_congr b1 hg,c,f,hop,hcf,hlen,?_⟩)
  have hsv : ∀ x ∈ oj.op.operands,∀ ty,st.sv E.T ty x = (DTo oi tki ei st).sv E.T ty x := fun x hx ty => sv_congr fun t ht => b1 t (looks_op (ht ▸ hx))
  rw [hsv f (by rw [hop]; simp [Op.operands,Call.operands,hcf]),zip_congr (ρ := st.sv E.T) (ρ' := (DTo oi tki ei st).sv E.T) (fun x hx ty => hsv x (by rw [hop]; simp [Op.operands,Call.operands,hcf]; exact .inr (by simpa using hx)) ty),
   (b3 hh).2]
  refine vcCallS_mono h' fun x m hx => ⟨hx,dact_on hp h (fun t ht => by cases ht) (.inr (.inr ⟨.inr (.inr k2),hh,.inr ⟨_,_,rfl⟩⟩)) (fun s hs => by unfold storesAt at hs; rw [hop] at hs; cases hs)⟩
 ·refine .inr (.inr ⟨k2,hh,dguard_congr b1 hg,hst,?_⟩)
  have hsv : ∀ x ∈ oj.op.operands,∀ ty,st.sv E.T ty x = (DTo oi tki ei st).sv E.T ty x := fun x hx ty => sv_congr fun t ht => b1 t (looks_op (ht ▸ hx))
  exact vcAppE_congr hsv (b3 hh).2 h' fun x m hx => ⟨hx,dact_on hp h (fun t ht => by cases ht) (.inr (.inr ⟨.inr (.inr k2),hh,.inr ⟨_,_,rfl⟩⟩)) (fun s hs => by rw [hst s] at hs; cases hs)⟩
end
end Go.Proofs.YtdmejgfcaacdoaaGreat.Abs
