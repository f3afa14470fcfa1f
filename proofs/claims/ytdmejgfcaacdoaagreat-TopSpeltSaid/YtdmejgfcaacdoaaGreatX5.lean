/- Lemmas for the statements of this seat (X5): they hold without conditions beyond those that each one states. -/
import Derived.Test.YtdmejgfcaacdoaaGreatX4
import Derived.Deep.LoopGhost
import Derived.RangeFuncRecord
import Derived.RangeFuncIn
/- The abstract machine,part 15: the conditions 'vc' of code are enough: loops,and whole functions. -/
namespace Go.Proofs.YtdmejgfcaacdoaaGreat.Abs
set_option linter.unusedSimpArgs false
open Go Go.RowKit
structure ALoop (E : Env) (n : Nat) (body : Code) (K : Exit → St → Prop) (st : St) (_t : Tag (body,K)) : Prop where
 does : codeOk n body = true → AWp E n (.loop body) K st
structure ADraw (E : Env) (n : Nat) (ops : Array Oper) (K : St → Prop) (st : St) (_t : Tag (ops,K)) : Prop where
 does : ops.toList.all (dstOk n) = true → ∀ id,AWp E n (.region id ops true) (fun e st' => e = .normal ∧ K st') st
structure ACut (E : Env) (n : Nat) (ops : Array Oper) (K : St → Prop) (st : St) (_t : Tag (ops,K)) : Prop where
 does : ops.toList.all (dstOk n) = true → ∀ id,AWp E n (.region id ops false) (fun e st' => e = .normal ∧ K st') st
structure ARange (E : Env) (n : Nat) (f : Operand) (ps : Array Tmp) (assign body : Code) (K : Exit → St → Prop) (st : St) (_t : Tag (f,ps,assign,body,K)) : Prop where
 does : AWp E n (.rangeFunc f ps assign body) K st
def vc (E : Env) (n : Nat) : Code → (Exit → St → Prop) → St → Prop
 | .skip,K,st => K .normal st
 | .region id ops false,K,st => if cutAt E.cut id = true then ACut E n ops (K .normal) st .mk else vcOps E ops ops.toList (K .normal) st
 | .region _ ops true,K,st => ADraw E n ops (K .normal) st .mk
 | .seq x y,K,st => vc E n x (fun e st' => match e with | .normal => vc E n y K st' | e => K e st') st
 | .cond c x y,K,st => match st.sv E.T 0 c with
  | .v (.bool b) => if b = true then vc E n x K st else vc E n y K st
  | _ => False
 | .block id x,K,st => vc E n x (fun e st' => match e with | .exit j => if j = id then K .normal st' else K (.exit j) st' | e => K e st') st
 | .exit id,K,st => K (.exit id) st
 | .ret,K,st => K .ret st
 | .loop body,K,st => ALoop E n body K st .mk
 | .rangeFunc f ps assign body,K,st => ARange E n f ps assign body K st .mk
 | .scope x,K,st => vc E n x (fun e st' => match e with | .goto _ => False | e => K e st') st
 | .label _,K,st => K .normal st
 | _,_,_ => False
section
variable {E : Env} {n : Nat} {K : Exit → St → Prop} {st : St}
theorem Sat.trans {G G' : Gh} {w w' : World} (hx : ExtL G w G' w') {K : Exit → St → Prop} {e : Exit} {a : Act} {v : World} (h : Sat n G' w' K e a v) : Sat n G w K e a v := by
 obtain ⟨G'',st',h1,h2⟩ := h
 exact ⟨G'',st',hx.trans h1,h2⟩
theorem AWp.mono {c : Code} {K' : Exit → St → Prop} (h : AWp E n c K st) (hk : ∀ e st',K e st' → K' e st') : AWp E n c K' st :=
 fun r hrd G w a hi hf hs => wpIn_mono (h r hrd G w a hi hf hs) fun e _ _ ⟨G',st',h1,h2,h3,h4,h5⟩ => ⟨G',st',h1,h2,h3,h4,hk e st' h5⟩
theorem awp_seq {x y : Code} (h : AWp E n x (fun e st' => match e with | .normal => AWp E n y K st' | e => K e st') st) : AWp E n (.seq x y) K st := by
 intro r hrd G w a hi hf hs
 refine wpIn_seq (wpIn_mono (h r hrd G w a hi hf hs) ?_)
 rintro e a' w' ⟨G',st',h1,h2,h3,h4,h5⟩
 cases e with
 | normal => exact wpIn_mono (h5 r hrd G' w' a' h2 h3 h4) fun e a v hv => hv.trans h1
 | _ => exact ⟨G',st',h1,h2,h3,h4,h5⟩
theorem awp_block {id : Nat} {x : Code} (h : AWp E n x (fun e st' => match e with | .exit j => if j = id then K .normal st' else K (.exit j) st' | e => K e st') st) : AWp E n (.block id x) K st := by
 intro r hrd G w a hi hf hs
 refine wpIn_block (wpIn_mono (h r hrd G w a hi hf hs) ?_)
 rintro e a' w' ⟨G',st',h1,h2,h3,h4,h5⟩
 cases e with
 | exit j =>
  simp only [Exit.inBlock] at h5 ⊢
  split
  ·rename_i e; subst e; rw [if_pos rfl] at h5; exact ⟨G',st',h1,h2,h3,h4,h5⟩
  ·rename_i e; rw [if_neg e] at h5; exact ⟨G',st',h1,h2,h3,h4,h5⟩
 | _ => exact ⟨G',st',h1,h2,h3,h4,h5⟩
theorem stepR_scope {P : Program} {b : Frame} {a : Act} {k : List Item} {cs : List Frame} {w : World} {c : Code} : step P (lone (b.atR a (.code (.scope c) :: k)) cs w) = .next (lone (b.atR a (.code c :: .inScope c :: k)) cs w) :=
 step_lone_go (by simp [stepG,stepG.exec,Frame.atR])
theorem stepR_inScope {P : Program} {b : Frame} {a : Act} {k : List Item} {cs : List Frame} {w : World} {c : Code} : step P (lone (b.atR a (.inScope c :: k)) cs w) = .next (lone (b.atR a k) cs w) :=
 step_lone_go (by simp [stepG,stepG.exec,Frame.atR])
theorem wpIn_scope {F : Fence} {k : Nat} {P : Program} {Q : Exit → Act → World → Prop} {a : Act} {w : World} {c : Code} (h : c.wpIn F k P (fun e a w => match e with | .goto _ => False | e => Q e a w) a w) : (Code.scope c).wpIn F k P Q a w := by
 intro b k cs hro hb hr
 have h0 : (lone (b.atR a (.code (.scope c) :: k)) cs w).fenced P F := fenced_calm hb hr rfl
 obtain ⟨e,a₁,w₁,hq,harr⟩ := h b (.inScope c :: k) cs hro hb hr
 cases e with
 | normal => exact ⟨.normal,a₁,w₁,hq,.head h0 stepR_scope (StepsIn.trans harr (.one (fenced_calm hb hr rfl) stepR_inScope))⟩
 | exit id =>
  have hx : exitTo id (.inScope c :: k) = exitTo id k := by simp [exitTo]
  exact ⟨.exit id,a₁,w₁,hq,fun k' hk => .head h0 stepR_scope (harr.1 k' (by rw [hx]; exact hk)),
   fun hr' hk => let ⟨k₁,h1,h2⟩ := harr.2 hr' (by rw [hx]; exact hk); ⟨k₁,h1,.head h0 stepR_scope h2⟩⟩
 | goto l => exact hq.elim
 | ret => exact ⟨_,a₁,w₁,hq,.of_steps (.one h0 stepR_scope) harr⟩
 | panic ch => exact ⟨_,a₁,w₁,hq,.of_steps (.one h0 stepR_scope) harr⟩
 | outgrown => exact ⟨_,a₁,w₁,hq,.of_steps (.one h0 stepR_scope) harr⟩
theorem awp_scope {x : Code} (h : AWp E n x (fun e st' => match e with | .goto _ => False | e => K e st') st) : AWp E n (.scope x) K st := by
 intro r hrd G w a hi hf hs
 refine wpIn_scope (wpIn_mono (h r hrd G w a hi hf hs) ?_)
 rintro e a' w' ⟨G',st',h1,h2,h3,h4,h5⟩
 cases e with
 | goto l => exact h5
 | _ => exact ⟨G',st',h1,h2,h3,h4,h5⟩
theorem awp_cond {c : Operand} {x y : Code} {b : Bool} (hb : st.sv E.T 0 c = .v (.bool b)) (ht : b = true → AWp E n x K st) (hf : b = false → AWp E n y K st) : AWp E n (.cond c x y) K st := by
 intro r hrd G w a hi ⟨β,R,hfr⟩ hs
 have hc := hfr.eval E.T 0 c
 rw [hb] at hc
 exact wpIn_cond_split (rep_bool (srep_v hc)) (fun h => ht h r hrd G w a hi ⟨β,R,hfr⟩ hs) (fun h => hf h r hrd G w a hi ⟨β,R,hfr⟩ hs)
theorem awp_here {c : Code} {e : Exit} (hk : K e st) (h : ∀ (F : Fence) (k : Nat) (P : Program) (Q : Exit → Act → World → Prop) (a : Act) (w : World),Q e a w → c.wpIn F k P Q a w) : AWp E n c K st :=
 fun _ _ G _ _ hi hf hs => h _ _ _ _ _ _ ⟨G,st,ExtL.refl _ _,hi,hf,hs,hk⟩
theorem ev_nodefer {o : Oper} {ρ : TypeId → Operand → SV} {ow : Operand → Bool} {loc : Nat → Option (List AV)} {mem : Mem} {K : Eff → Prop} (h : ev E o ρ ow loc mem K) : ∀ c,o.op ≠ .defer c := by
 intro c hc
 unfold ev at h
 rw [hc] at h
 exact h
theorem vcOp_sound (hE : EnvOk E) {o : Oper} {K : St → Prop} (h : vcOp E o K st) (hd : dstOk n o = true) {G : Gh} {w : World} {a : Act} (hi : Inv G w) (hf : FRel G w a st) (hs : a.tmps.size = n) {r : Option Nat}
  {next : Act → World → Prop} {Q : Exit → Act → World → Prop} (hn : ∀ a' w' G' st',Ext G w G' w' → Inv G' w' → FRel G' w' a' st' → a'.tmps.size = n → K st' → next a' w') : o.wpIn (fen r) 0 E.P a w next Q := by
 have hd' : ∀ t,o.dst = some t → t < a.tmps.size := fun t ht => by rw [hs]; simpa [dstOk,ht] using hd
 have plain : ∀ (st1 : St) (G1 : Gh),Ext G w G1 w → Inv G1 w → FRel G1 w a st1 → ev E o (st1.sv E.T) st1.ow st1.loc st1.mem (fun e => K ((st1.takeO (takes o)).eff o.dst e)) → o.wpIn (fen r) 0 E.P a w next Q := by
  intro st1 G1 hx1 hi1 ⟨β,R,hf1⟩ h
  have hnd := ev_nodefer h
  obtain ⟨e,hk,v,w',G',hr,hx,hi',hf'⟩ := ev_sound hE h hi1 hf1 hd'
  have hnn := hn (a.put o.dst v) w' G' _ (hx1.trans hx) hi' hf' (by rw [put_size]; exact hs) hk
  refine oper_in hnd ?_
  rcases hr with hr | ⟨hr,rfl⟩ <;> rw [hr]
  ·exact hnn
  ·exact hnn
 obtain ⟨β,R,hfb⟩ := hf
 unfold vcOp at h
 split at h
 ·rename_i c hop
  split at h
  ·rename_i f hcf
   obtain ⟨G1,R1,hx1,hi1,hf1⟩ := freezes_sound (c.args.toList.map (st.sv E.T 0)) hi hfb
   obtain ⟨hlen,h⟩ := h
   revert h hf1
   generalize st.freezes (c.args.toList.map (st.sv E.T 0)) = st1
   intro hf1 h
   have hnd : ∀ c,o.op ≠ .defer c := fun c hc => by rw [hop] at hc; cases hc
   unfold vcCall at h
   split at h
   ·rename_i g first caps ys hfe hys
    have hfv := hf1.eval E.T 0 f
    rw [hfe] at hfv
    obtain ⟨fs,cs,hval,hrf,hrc⟩ := rep_fn (srep_v hfv)
    have hra := zip_avs hf1 c.argTypes.toList c.args.toList ys hlen hys
    have hall := (hrf.append hra).append hrc
    have hcall := call_sound hi1 hf1 h hall
    have hrun : (execOp a.eval o).run E.P w = .ok (.enter g (fs ++ c.args.toList.map a.eval ++ cs).toArray) w := by
     have e2 : (fs.toArray ++ c.args.map a.eval ++ cs.toArray) = (fs ++ c.args.toList.map a.eval ++ cs).toArray := by
      apply Array.ext'; simp
     unfold execOp
     simp only [hop,resolve,hcf,hval,Deferred.ofValue,Sem.run_bind,Sem.run_pure,Result.andThen_ok,invoke]
     rw [h.1,e2]
    refine oper_in hnd ?_
    rw [hrun]
    refine ⟨fen_depth r,(calls_fen hcall).mono ?_⟩
    rintro e w' ⟨v,r,m',G',R',rfl,hx,hi',hf',hr,hK⟩
    have hfp := hf'.put (d := o.dst) (x := .v r) hd' hr (fun i h => h.elim)
    exact hn _ _ G' _ (hx1.trans hx) hi' ⟨β,R',hfp⟩ (by rw [put_size]; exact hs) hK
   ·rename_i l first caps ys hfe hys
    have hfv := hf1.eval E.T 0 f
    rw [hfe] at hfv
    obtain ⟨fs,cs,hval,hrf,hrc⟩ := rep_fn (srep_v hfv)
    have hra := zip_avs hf1 c.argTypes.toList c.args.toList ys hlen hys
    obtain ⟨f',tmps,assign,body,hy,hround⟩ := yield_sound hi1 hf1 h (hrf.append hra)
    have hrun : (execOp a.eval o).run E.P w = .ok (.round l f' tmps assign body) w := by
     have e2 : (fs.toArray ++ c.args.map a.eval) = (fs ++ c.args.toList.map a.eval).toArray := by
      apply Array.ext'; simp
     unfold execOp
     simp only [hop,resolve,hcf,hval,Deferred.ofValue,Sem.run_bind,Sem.run_pure,Result.andThen_ok,invoke]
     rw [e2,hy]
    refine oper_in hnd ?_
    rw [hrun]
    refine ⟨fen_depth r,(round_fen hround).mono ?_⟩
    rintro e w' ⟨v,r,m',G',R',rfl,hx,hi',hf',hr,hK⟩
    have hfp := hf'.put (d := o.dst) (x := .v r) hd' hr (fun i h => h.elim)
    exact hn _ _ G' _ (hx1.trans hx) hi' ⟨β,R',hfp⟩ (by rw [put_size]; exact hs) hK
   ·exact h.elim
  ·exact plain st G (Ext.refl _ _) hi ⟨β,R,hfb⟩ h
 ·rename_i f first caps hop
  obtain ⟨G1,R1,hx1,hi1,hf1⟩ := freezes_sound (first.toList.map (st.sv E.T 0)) hi hfb
  obtain ⟨G2,R2,hx2,hi2,hf2⟩ := freezes_sound (caps.toList.map (st.sv E.T 0)) hi1 hf1
  exact plain _ G2 (hx1.trans hx2) hi2 ⟨β,R2,hf2⟩ h
 ·exact plain st G (Ext.refl _ _) hi ⟨β,R,hfb⟩ h
theorem upd_self {α : Type} (f : Nat → α) (i : Nat) : upd f i (f i) = f := by
 funext k
 by_cases e : k = i
 ·subst e; rw [upd_same]
 ·rw [upd_ne _ _ e]
theorem getD_some {a : Act} {d : Nat} {v : Value} (h : a.tmps.getD d undef = v) (hv : v ≠ undef) : a.tmps[d]? = some v := by
 by_cases hlt : d < a.tmps.size
 ·rw [Array.getElem?_eq_getElem hlt]
  simp [Array.getD,hlt] at h
  rw [h]
 ·simp [Array.getD,hlt] at h
  exact absurd h.symm hv
theorem vcOps_sound (hE : EnvOk E) {ops : Array Oper} : ∀ (l : List Oper) {K : St → Prop} {st : St} {r : Option Nat},vcOps E ops l K st → l.all (dstOk n) = true →
  ∀ {G : Gh} {w : World} {a : Act},Inv G w → FRel G w a st → a.tmps.size = n → ∀ {Q : Exit → Act → World → Prop},(∀ a' w' G' st',Ext G w G' w' → Inv G' w' → FRel G' w' a' st' → a'.tmps.size = n → K st' → Q .normal a' w') →
  wpListIn (fen r) 0 E.P ops Q l a w
 | [],K,st,r,h,_,G,w,a,hi,hf,hs,Q,hQ => hQ a w G st (Ext.refl _ _) hi hf hs h
 | o :: rest,K,st,r,h,hd,G,w,a,hi,hf,hs,Q,hQ => by
  simp only [List.all_cons,Bool.and_eq_true] at hd
  obtain ⟨hd1,hd2⟩ := hd
  have yes : ∀ st1,FRel G w a st1 → vcOp E o (vcOps E ops rest K) st1 → Region.wanted o (yielded ops a.tmps) = true → wpListIn (fen r) 0 E.P ops Q (o :: rest) a w := by
   intro st1 hf1 h hw
   unfold wpListIn
   rw [if_pos hw]
   exact (vcOp_sound hE h hd1 hi hf1 hs fun a' w' G' st' hx hi' hf' hs' hk =>
    vcOps_sound hE rest hk hd2 hi' hf' hs' fun a'' w'' G'' st'' hx' hi'' hf'' hs'' hk' => hQ a'' w'' G'' st'' (hx.trans hx') hi'' hf'' hs'' hk')
  have no : ∀ st1,FRel G w a st1 → vcOps E ops rest K (st1.put o.dst undefS false) → Region.wanted o (yielded ops a.tmps) = false → wpListIn (fen r) 0 E.P ops Q (o :: rest) a w := by
   intro st1 ⟨β,R,hf1⟩ h hw
   unfold wpListIn
   rw [if_neg (by rw [hw]; simp)]
   have hd' : ∀ t,o.dst = some t → t < a.tmps.size := fun t ht => by rw [hs]; simpa [dstOk,ht] using hd1
   refine ⟨fun _ _ => fen_fn r _,?_⟩
   exact vcOps_sound hE rest h hd2 hi ⟨β,R,hf1.put hd' (x := undefS) (v := undef) (rep_undef _ _) (fun i h => h.elim)⟩ (by rw [put_size]; exact hs) hQ
  unfold vcOps vcGuard at h
  split at h
  ·rename_i hg
   exact yes st hf h (by simp [Region.wanted,hg])
  ·rename_i j want hg
   split at h
   ·exact h.elim
   ·rename_i d hj
    obtain ⟨β,R,hfb⟩ := hf
    have hv := hfb.vals d
    split at h
    ·rename_i b hb
     rw [ite_both] at h
     rw [hb] at hv
     have hval := getD_some (rep_bool (srep_v hv)) (by simp [undef])
     have hy : yielded ops a.tmps j = some b := by
      unfold yielded
      rw [show (ops[j]?).bind (·.dst) = some d from hj]
      simp [hval]
     by_cases e : b = want
     ·subst e
      have hst : ({ st with vals := upd st.vals d (.v (.bool b)) } : St) = st := by rw [← hb,upd_self]
      have h1 := h.1 rfl
      rw [hst] at h1
      exact yes st ⟨β,R,hfb⟩ h1 (by simp [Region.wanted,hg,hy])
     ·have e' : b = !want := by cases b <;> cases want <;> simp_all
      have hst : ({ st with vals := upd st.vals d (.v (.bool !want)) } : St) = st := by rw [← e',← hb,upd_self]
      have h2 := h.2 e'
      rw [hst] at h2
      exact no st ⟨β,R,hfb⟩ h2 (by simp [Region.wanted,hg,hy,e'])
    ·rename_i hb
     rw [hb] at hv
     have hval := rep_nilundef (srep_v hv)
     have hy : yielded ops a.tmps j = none := by
      unfold yielded
      rw [show (ops[j]?).bind (·.dst) = some d from hj]
      by_cases hlt : d < a.tmps.size
      ·have : a.tmps[d]? = some undef := by
        rw [Array.getElem?_eq_getElem hlt]
        simp [Array.getD,hlt] at hval
        rw [hval]
       simp [this,undef]
      ·simp [Array.getElem?_eq_none (Nat.le_of_not_lt hlt)]
     exact no st ⟨β,R,hfb⟩ h (by simp [Region.wanted,hg,hy])
    ·exact h.elim
theorem vc_sound (hE : EnvOk E) : ∀ (c : Code) {K : Exit → St → Prop} {st : St},codeOk n c = true → vc E n c K st → AWp E n c K st
 | .skip,K,st,_,h => awp_here h fun _ _ _ _ _ _ hq => wpIn_skip hq
 | .region id ops false,K,st,hc,h => by
  unfold vc at h
  split at h
  ·exact (ACut.does h hc id).mono fun e st' ⟨he,hk⟩ => by subst he; exact hk
  ·exact fun r hrd G w a hi hf hs => wpIn_region_list (vcOps_sound hE ops.toList h hc hi hf hs fun a' w' G' st' hx hi' hf' hs' hk => ⟨G',st',hx.toL,hi',hf',hs',hk⟩)
 | .region id ops true,K,st,hc,h => (ADraw.does h hc id).mono fun e st' ⟨he,hk⟩ => by subst he; exact hk
 | .seq x y,K,st,hc,h => by
  simp only [codeOk,Bool.and_eq_true] at hc
  refine awp_seq ((vc_sound hE x hc.1 h).mono fun e st' hk => ?_)
  cases e with
  | normal => exact vc_sound hE y hc.2 hk
  | _ => exact hk
 | .cond c x y,K,st,hc,h => by
  simp only [codeOk,Bool.and_eq_true] at hc
  unfold vc at h
  split at h
  ·rename_i b hb
   rw [ite_both] at h
   exact awp_cond hb (fun e => vc_sound hE x hc.1 (h.1 e)) (fun e => vc_sound hE y hc.2 (h.2 e))
  ·exact h.elim
 | .block id x,K,st,hc,h => awp_block (vc_sound hE x hc h)
 | .exit id,K,st,_,h => awp_here h fun _ _ _ _ _ _ hq => wpIn_exit hq
 | .ret,K,st,_,h => awp_here h fun _ _ _ _ _ _ hq => wpIn_ret hq
 | .loop body,K,st,hc,h => ALoop.does h hc
 | .rangeFunc f ps assign body,K,st,_,h => ARange.does h
 | .scope x,K,st,hc,h => awp_scope (vc_sound hE x hc h)
 | .label _,K,st,_,h => awp_here h fun _ _ _ _ _ _ hq => wpIn_label hq
 | .goto _,K,st,_,h => h.elim
 | .refuse _,K,st,_,h => h.elim
end
end Go.Proofs.YtdmejgfcaacdoaaGreat.Abs
/- The abstract machine,part 16: the rule for loops; the rule for functions. -/
namespace Go.Proofs.YtdmejgfcaacdoaaGreat.Abs
set_option linter.unusedSimpArgs false
open Go Go.RowKit
structure Head where
 vals : List (Nat × SV)
 own : List Nat := []
 loc : List (Nat × List AV) := []
 mem : Mem
def lookV : List (Nat × SV) → Nat → SV
 | [],_ => .v .top
 | (j,x) :: r,i => if i = j then x else lookV r i
def lookL : List (Nat × List AV) → Nat → Option (List AV)
 | [],_ => none
 | (j,x) :: r,i => if i = j then some x else lookL r i
def lookO : List Nat → Nat → Bool
 | [],_ => false
 | j :: r,i => if i = j then true else lookO r i
def Head.st (h : Head) : St := ⟨lookV h.vals,lookO h.own,lookL h.loc,h.mem⟩
def refKey : SV → Option Nat
 | .v _ => none
 | .loc i _ => some i
 | .lslice i _ _ _ => some i
def Head.ok (h : Head) : Bool :=
 (h.vals.all fun p => match refKey p.2 with
  | none => true
  | some i => (h.loc.map (·.1)).contains i) && h.own.all fun s => (h.vals.map (·.1)).contains s
def fitsV (st : St) : List (Nat × SV) → Prop
 | [] => True
 | (i,x) :: r => st.vals i = x ∧ fitsV st r
def fitsO (st : St) : List Nat → Prop
 | [] => True
 | i :: r => st.own i = true ∧ fitsO st r
def fitsL (st : St) : List (Nat × List AV) → Prop
 | [] => True
 | (i,l) :: r => st.loc i = some l ∧ fitsL st r
def Fits (st : St) (h : Head) : Prop := fitsV st h.vals ∧ fitsO st h.own ∧ fitsL st h.loc ∧ st.mem = h.mem
theorem fitsV_look {st : St} : ∀ {l : List (Nat × SV)},fitsV st l → ∀ s,lookV l s = st.vals s ∨ (lookV l s = .v .top ∧ s ∉ l.map (·.1))
 | [],_,s => .inr ⟨rfl,by simp⟩
 | (i,x) :: r,⟨h1,h2⟩,s => by
  unfold lookV
  by_cases e : s = i
  ·subst e; rw [if_pos rfl]; exact .inl h1.symm
  ·rw [if_neg e]
   rcases fitsV_look h2 s with h | ⟨h,h'⟩
   ·exact .inl h
   ·exact .inr ⟨h,by simp [e]; simpa using h'⟩
theorem lookV_mem : ∀ {l : List (Nat × SV)} {s : Nat},s ∈ l.map (·.1) → ∃ x,(s,x) ∈ l ∧ lookV l s = x
 | [],_,h => by simp at h
 | (i,x) :: r,s,h => by
  unfold lookV
  by_cases e : s = i
  ·subst e; exact ⟨x,by simp,if_pos rfl⟩
  ·rw [if_neg e]
   obtain ⟨y,h1,h2⟩ := lookV_mem (l := r) (s := s) (by simpa [e] using h)
   exact ⟨y,by simp [h1],h2⟩
theorem fitsO_look {st : St} : ∀ {l : List Nat},fitsO st l → ∀ s,lookO l s = true → st.own s = true ∧ s ∈ l
 | [],_,s,h => by simp [lookO] at h
 | i :: r,⟨h1,h2⟩,s,h => by
  unfold lookO at h
  by_cases e : s = i
  ·subst e; exact ⟨h1,by simp⟩
  ·rw [if_neg e] at h
   obtain ⟨k1,k2⟩ := fitsO_look h2 s h
   exact ⟨k1,by simp [k2]⟩
theorem fitsL_look {st : St} : ∀ {l : List (Nat × List AV)},fitsL st l → ∀ s c,lookL l s = some c → st.loc s = some c
 | [],_,s,c,h => by simp [lookL] at h
 | (i,x) :: r,⟨h1,h2⟩,s,c,h => by
  unfold lookL at h
  by_cases e : s = i
  ·subst e; rw [if_pos rfl] at h; rw [h1]; exact h
  ·rw [if_neg e] at h; exact fitsL_look h2 s c h
theorem lookL_mem : ∀ {l : List (Nat × List AV)} {i : Nat},i ∈ l.map (·.1) → lookL l i ≠ none
 | [],_,h => by simp at h
 | (j,x) :: r,i,h => by
  unfold lookL
  by_cases e : i = j
  ·rw [if_pos e]; simp
  ·rw [if_neg e]; exact lookL_mem (by simpa [e] using h)
theorem FRel.weaken {G : Gh} {w : World} {a : Act} {st : St} {h : Head} (hf : FRel G w a st) (hfit : Fits st h) (hok : h.ok = true) : FRel G w a h.st := by
 obtain ⟨β,R,hf⟩ := hf
 obtain ⟨f1,f2,f3,f4⟩ := hfit
 unfold Head.ok at hok
 rw [Bool.and_eq_true] at hok
 obtain ⟨o1,o2⟩ := hok
 refine ⟨β,R,⟨hf.defers,fun s => ?_,fun s hs => ?_,fun i l hl => hf.loc i l (fitsL_look f3 i l hl),fun s i hi => ?_,?_,?_,hf.rlt⟩⟩
 ·show SRep _ _ _ (lookV h.vals s) _
  rcases fitsV_look f1 s with e | ⟨e,_⟩
  ·rw [e]; exact hf.vals s
  ·rw [e]; exact .top _
 ·obtain ⟨k1,k2⟩ := fitsO_look f2 s hs
  have hk := List.all_eq_true.1 o2 s k2
  have hk' : s ∈ h.vals.map (·.1) := by simpa using hk
  rcases fitsV_look f1 s with e | ⟨_,e⟩
  ·show Own _ _ _ _ _ (lookV h.vals s)
   rw [e]; exact hf.own s k1
  ·exact absurd hk' e
 ·have hi' : (lookV h.vals s).refs i := hi
  rcases Classical.em (s ∈ h.vals.map (·.1)) with hm | hm
  ·obtain ⟨x,hx,e⟩ := lookV_mem hm
   rw [e] at hi'
   have hk := List.all_eq_true.1 o1 (s,x) hx
   show lookL h.loc i ≠ none
   refine lookL_mem ?_
   cases x with
   | v x => exact hi'.elim
   | loc j off =>
    have : j = i := hi'
    subst this
    simpa [refKey] using hk
   | lslice j off len cap =>
    have : j = i := hi'
    subst this
    simpa [refKey] using hk
  ·rcases fitsV_look f1 s with e | ⟨e,_⟩
   ·have : lookV h.vals s = .v .top := by
     have hn : ∀ (l : List (Nat × SV)),s ∉ l.map (·.1) → lookV l s = .v .top := by
      intro l
      induction l with
      | nil => intro _; rfl
      | cons p r ih =>
       intro hn
       obtain ⟨j,x⟩ := p
       unfold lookV
       simp at hn
       rw [if_neg hn.1]
       exact ih (by simpa using hn.2)
     exact hn _ hm
    rw [this] at hi'; exact hi'.elim
   ·rw [e] at hi'; exact hi'.elim
 ·show MemRep G w h.mem
  rw [← f4]; exact hf.mem
 ·show ∀ b x,h.mem b = some x → _
  rw [← f4]; exact hf.rmem
def Back {α : Type} (I : α → Head) (J : α → Prop) (m : α → Nat) (x : α) (st : St) : Prop := ∃ y,J y ∧ m y < m x ∧ Fits st (I y)
def loopK {α : Type} (I : α → Head) (J : α → Prop) (m : α → Nat) (x : α) (K : Exit → St → Prop) (e : Exit) (st : St) : Prop :=
 match e with
 | .normal => Back I J m x st
 | e => K e st
section
variable {E : Env} {n : Nat} {K : Exit → St → Prop} {st : St}
theorem wpIn_ghost {F : Fence} {k : Nat} {P : Program} {Q : Exit → Act → World → Prop} {a : Act} {w : World} {c : Code} (I : Nat → Act → World → Prop) (n₀ : Nat) (h₀ : I n₀ a w)
  (round : ∀ j a w,I j a w → c.wpIn F k P (Exit.then (fun a' w' => ∃ j',j' < j ∧ I j' a' w') Q) a w) : (Code.loop c).wpIn F k P Q a w := by
 refine wpIn_loop_rounds (n₀ + 1) ?_
 have key : ∀ N j a w,j < N → I j a w → Code.roundsIn F k P c Q N a w := by
  intro N
  induction N with
  | zero => intro j a w h; omega
  | succ N ih =>
   intro j a w h hI
   refine wpIn_mono (round j a w hI) fun e a' w' h' => ?_
   cases e with
   | normal =>
    obtain ⟨j',h1,h2⟩ := h'
    exact ih j' a' w' (by omega) h2
   | _ => exact h'
 exact key _ n₀ a w (by omega) h₀
theorem aloop (hE : EnvOk E) {body : Code} {α : Type} (I : α → Head) (J : α → Prop) (m : α → Nat) (x0 : α) (hok : ∀ x,(I x).ok = true) (h0 : J x0) (hf : Fits st (I x0))
  (hr : ∀ x,J x → vc E n body (loopK I J m x K) (I x).st) : ALoop E n body K st .mk := by
 refine ⟨fun hc r hrd G w a hi hfr hs => ?_⟩
 have hcb : codeOk n body = true := hc
 refine wpIn_ghost (fun k a' w' => ∃ G' x,m x = k ∧ ExtL G w G' w' ∧ Inv G' w' ∧ FRel G' w' a' (I x).st ∧ a'.tmps.size = n ∧ J x)
  (m x0) ⟨G,x0,rfl,ExtL.refl _ _,hi,hfr.weaken hf (hok _),hs,h0⟩ ?_
 rintro k a' w' ⟨G',x,rfl,h1,h2,h3,h4,h5⟩
 refine wpIn_mono (vc_sound hE body hcb (hr x h5) r hrd G' w' a' h2 h3 h4) ?_
 rintro e a'' w'' ⟨G'',st'',k1,k2,k3,k4,k5⟩
 cases e with
 | normal =>
  obtain ⟨y,q1,q2,q3⟩ := k5
  exact ⟨m y,q2,G'',y,rfl,h1.trans k1,k2,k3.weaken q3 (hok _),k4,q1⟩
 | _ => exact ⟨G'',st'',h1.trans k1,k2,k3,k4,k5⟩
theorem acut (hE : EnvOk E) {ops : Array Oper} {K : St → Prop} {α : Type} (I : α → Head) (J : α → Prop) (hok : ∀ x,(I x).ok = true) (h : vcOps E ops ops.toList (fun st' => ∃ x,J x ∧ Fits st' (I x)) st) (hk : ∀ x,J x → K (I x).st) : ACut E n ops K st .mk := by
 refine ⟨fun hc id r hrd G w a hi hf hs => wpIn_region_list (vcOps_sound hE ops.toList h hc hi hf hs ?_)⟩
 rintro a' w' G' st' hx hi' hf' hs' ⟨x,hj,hfit⟩
 exact ⟨G',(I x).st,hx.toL,hi',hf'.weaken hfit (hok x),hs',rfl,hk x hj⟩
def resOne (tmps : Array Value) : ResultVar → Sem Value
 | .tmp t => pure (tmps.getD t undef)
 | .cell p t => do loadVar t (← asAddr (tmps.getD p undef))
theorem results_resOne (fn : Func) (tmps : Array Value) : results fn tmps = (do let vs ← fn.results.mapM (resOne tmps); pure (if h : vs.size = 1 then vs[0] else .tuple vs)) := by
 unfold results
 have : (fun x : ResultVar => (match x with | .tmp t => pure (tmps.getD t undef) | .cell a t => do loadVar t (← asAddr (tmps.getD a undef)) : Sem Value)) = resOne tmps := by
  funext r; cases r <;> rfl
 rw [← this]
 rfl
theorem vcRets_sound (hE : EnvOk E) {G : Gh} {w : World} {β : Nat → Nat} {R : Nat → Role} {a : Act} (hf : FRelB G w β R a st) : ∀ (rs : List ResultVar) {K : List AV → Prop},vcRets E rs st K →
  ∃ l vs,K l ∧ Reps G.com w l vs ∧ (rs.mapM (resOne a.tmps)).run E.P w = .ok vs w
 | [],K,h => ⟨[],[],h,Reps.nil,by simp⟩
 | .tmp t :: rs,K,h => by
  unfold vcRets at h
  split at h
  ·rename_i x hx
   obtain ⟨l,vs,hk,hr,hrun⟩ := vcRets_sound hE hf rs h
   have hv := hf.vals t
   rw [hx] at hv
   have h1 : (resOne a.tmps (.tmp t)).run E.P w = .ok (a.tmps.getD t undef) w := rfl
   exact ⟨_,_,hk,Reps.cons (srep_v hv) hr,by simp only [List.mapM_cons,Sem.run_bind,h1,hrun,Result.andThen_ok,Sem.run_pure]⟩
  ·exact h.elim
 | .cell p t :: rs,K,h => by
  unfold vcRets at h
  obtain ⟨r,z,h,hz,hrun1⟩ := vcLoad_sound hE hf h (hf.vals p)
  obtain ⟨l,vs,hk,hr,hrun⟩ := vcRets_sound hE hf rs h
  have hrun2 : (do loadVar t (← asAddr (a.tmps.getD p undef)) : Sem Value).run E.P w = .ok z w := by
   unfold Instr.loadAt at hrun1
   generalize a.tmps.getD p undef = v at hrun1 ⊢
   cases v with
   | pointer q =>
    cases q with
    | some q => simpa [Instr.sureAddr,asAddr] using hrun1
    | none => simp [Instr.sureAddr,stuck,Sem.run] at hrun1
   | _ => simp [Instr.sureAddr,stuck,Sem.run] at hrun1
  refine ⟨_,_,hk,Reps.cons hz hr,?_⟩
  have h1 : (resOne a.tmps (.cell p t)).run E.P w = .ok z w := hrun2
  simp only [List.mapM_cons,Sem.run_bind,h1,hrun,Result.andThen_ok,Sem.run_pure]
theorem close_marks {F : Fence} {k : Nat} {P : Program} {fn : Func} {tmps : Array Value} {R : Ending → World → Prop} : ∀ (Ds : List Nat) (w : World),Ds.Nodup → (∀ D ∈ Ds,w.heap[D]? = some (.deferred (some []))) →
  (∀ w' : World,w'.heap.size = w.heap.size → (∀ b,b ∉ Ds → w'.heap[b]? = w.heap[b]?) → (∀ (B : Nat) (W : World),Below B W w → (∀ D ∈ Ds,B ≤ D) → Below B W w') → ∃ v,(results fn tmps).run P w' = .ok v w' ∧ R (.returned v) w') →
  LeavesInM F k P fn tmps R (Ds.map fun D => { target := .collected D,args := #[] }) .returning w
 | [],w,_,_,h => by
  obtain ⟨v,h1,h2⟩ := h w rfl (fun _ _ => rfl) (fun _ _ h _ => h)
  exact ⟨v,h1,h2⟩
 | D :: Ds,w,hnd,hD,h => by
  rw [List.nodup_cons] at hnd
  refine ⟨by simp,.inl ⟨D,w.putObj D (.deferred none),rfl,run_takeDeferred (hD D (by simp)),?_⟩⟩
  refine close_marks Ds _ hnd.2 (fun D' hD' => ?_) fun w' hsz hk hbl => ?_
  ·rw [World.putObj_heap_other (by rintro rfl; exact hnd.1 hD')]
   exact hD D' (by simp [hD'])
  ·refine h w' (by rw [hsz]; simp) (fun b hb => ?_) fun B W hB hle => ?_
   ·simp only [List.mem_cons,not_or] at hb
    rw [hk b hb.2,World.putObj_heap_other hb.1]
   ·refine hbl B W ⟨hB.os,hB.tape,hB.output,by simp; exact hB.size,fun k hk' => ?_⟩ fun D' hD' => hle D' (by simp [hD'])
    have := hle D (by simp)
    rw [World.putObj_heap_other (by omega)]
    exact hB.block k hk'
theorem cell_eq {w w' : World} {b i : Nat} (h : w'.heap[b]? = w.heap[b]?) : w'.cell? ⟨b,i,none⟩ = w.cell? ⟨b,i,none⟩ := by
 simp only [World.cell?,h]
theorem acall_intro (hE : EnvOk E) (hrd : E.rd = false) {f : FuncId} {fn : Func} {c : Code} {xs : List AV} {m : Mem} {K : AV → Mem → Prop} (hfn : E.P.funcs[f]? = some fn) (hb : fn.body = some c)
  (hcall : ∀ (args : Array Value) (w : World),(callFunc f args).run E.P w = .ok (.enter f args) w) (hok : codeOk fn.ntmps c = true) (hle : xs.length ≤ fn.ntmps)
  (h : vc E fn.ntmps c (retK E fn.results.toList K) (entry xs m)) : ACall E.P f xs m K := by
 refine ⟨hcall,fun G w vs hi hm hr => ?_⟩
 let Gs : Gh := { G with z := (G.W0,w.heap.size) }
 have his : Inv Gs w := ⟨hi.below,hi.com,hi.lock⟩
 refine callsIn_wide.1 (callsIn_of_wp_marks (n := 0) hfn hb trivial ?_)
 have hlen : vs.length = xs.length := hr.1.symm
 have hsz : (vs.toArray ++ Array.replicate (fn.ntmps - vs.toArray.size) undef).size = fn.ntmps := by simp; omega
 have hf : FRel Gs w ⟨vs.toArray ++ Array.replicate (fn.ntmps - vs.toArray.size) undef,[]⟩ (entry xs m) := by
  refine ⟨fun _ => 0,fun b => if (m b).isSome then .mem else .free,⟨Marks.nil (Nat.le_refl _),fun s => ?_,fun s hs => by simp [entry] at hs,fun i l hl => by simp [entry] at hl,fun s i hs => ?_,hm,fun b x hb => ?_,fun b hb => ?_⟩⟩
  ·show SRep _ _ _ (match xs[s]? with | some x => .v x | none => undefS) _
   by_cases hs : s < xs.length
   ·have hv : s < vs.length := by omega
    rw [List.getElem?_eq_getElem hs]
    have e : (vs.toArray ++ Array.replicate (fn.ntmps - vs.toArray.size) undef).getD s undef = vs[s] := by
     have h1 : s < (vs.toArray ++ Array.replicate (fn.ntmps - vs.toArray.size) undef).size := by rw [hsz]; omega
     rw [Array.getD,dif_pos h1]
     show (vs.toArray ++ Array.replicate (fn.ntmps - vs.toArray.size) undef)[s] = _
     rw [Array.getElem_append_left (by simpa using hv)]
     simp
    show Rep _ _ _ _
    rw [e]
    exact hr.2 s _ _ (List.getElem?_eq_getElem hs) (List.getElem?_eq_getElem hv)
   ·rw [List.getElem?_eq_none (by omega)]
    have e : (vs.toArray ++ Array.replicate (fn.ntmps - vs.toArray.size) undef).getD s undef = undef := by
     rw [Array.getD]
     split
     ·rename_i h1
      show (vs.toArray ++ Array.replicate (fn.ntmps - vs.toArray.size) undef)[s] = _
      rw [Array.getElem_append_right (by simp; omega)]
      simp
     ·rfl
    show Rep _ _ _ _
    rw [e]; exact rep_undef _ _
  ·simp only [entry] at hs
   split at hs <;> exact hs.elim
  ·have : m b = some x := hb
   simp [this]
  ·by_cases h : (m b).isSome
   ·obtain ⟨x,hx⟩ := Option.isSome_iff_exists.1 h
    exact (hm b x hx).2.1
   ·simp [h] at hb
 refine wpIn_mono (vc_sound hE c hok h none hrd.symm Gs w _ his hf hsz) ?_
 rintro e a' w' ⟨G',st',h1,h2,⟨β,R,h3⟩,_,h5⟩
 have fin : vcRet E fn.results.toList K st' → LeavesInM (fen none) 0 E.P fn a'.tmps (fun e w' => ∃ v r m' G',e = .returned v ∧ Ext G w G' w' ∧ Inv G' w' ∧ MemRep G' w' m' ∧ Rep G'.com w' r v ∧ K r m') a'.defers .returning w' := by
  intro h5
  obtain ⟨_,Ds,hDs,hnd,hD⟩ := h3.defers
  rw [hDs]
  have hbase : ∀ D ∈ Ds,w.heap.size ≤ D := fun D h => by
   have := (hD D h).1
   rw [show G'.base = w.heap.size by unfold Gh.base; rw [h1.z]] at this
   exact this
  refine close_marks Ds w' hnd (fun D h => (hD D h).2.2) fun w'' hsz'' hk hbl => ?_
  let Gm : Gh := { G' with lock := fun b => G'.lock b ∧ b ∉ Ds }
  have hW : G'.W0 = G.W0 := by unfold Gh.W0; rw [h1.z]
  have hlow : w.heap.size ≥ G.W0.heap.size := hi.below.size
  have hcells : ∀ b,G'.com b ≠ 0 → b ∉ Ds := fun b hb hbD => by
   obtain ⟨cs,e,fz,hc,_⟩ := h2.com b hb
   rw [(hD b hbD).2.2] at hc; cases hc
  have him : Inv Gm w' := ⟨h2.below,h2.com,fun b hb => h2.lock b hb.1⟩
  have him' : Inv Gm w'' := by
   refine ⟨hbl _ _ h2.below fun D h => ?_,fun b hb => ?_,fun b hb => by rw [hsz'']; exact h2.lock b hb.1⟩
   ·show Gm.W0.heap.size ≤ D
    have e : Gm.W0 = G.W0 := hW
    rw [e]; have := hbase D h; omega
   ·obtain ⟨cs,e,fz,hc,hn⟩ := h2.com b hb
    exact ⟨cs,e,fz,by rw [hk b (hcells b hb)]; exact hc,hn⟩
  have hxm : Ext Gm w' Gm w'' := ⟨rfl,rfl,by rw [hsz'']; exact Nat.le_refl _,fun _ => Nat.le_refl _,fun b i hb => cell_eq (hk b (hcells b (by have : i < G'.com b := hb; omega))),fun b hb => ⟨hk b hb.2,rfl⟩⟩
  have hnl : ∀ b,¬ G'.lock b → b ∉ Ds := fun b hb h => hb (hD b h).2.1
  have hfm : FRelB Gm w' β (fun b => if b ∈ Ds then .free else R b) ⟨a'.tmps,[]⟩ st' := by
   refine ⟨Marks.nil h3.defers.1,h3.vals,fun s hs => ?_,fun i l hl => ?_,h3.ref,fun b x hb => ?_,fun b x hb => ?_,fun b hb => ?_⟩
   ·obtain ⟨sz,l,e,hv⟩ := h3.own s hs
    refine ⟨sz,l,e,hv.imp id ?_⟩
    rintro ⟨b,len,cap,cs,el,k1,k2,k3,k4,k5,k6,k7,k8⟩
    exact ⟨b,len,cap,cs,el,k1,k2,fun h => k3 h.1,k4,k5,k6,k7,by simp only [if_neg (hnl b k3)]; exact k8⟩
   ·obtain ⟨⟨k1,k2,k3,k4⟩,k5⟩ := h3.loc i l hl
    exact ⟨⟨k1,fun h => k2 h.1,k3,k4⟩,by simp only [if_neg (hnl _ k2)]; exact k5⟩
   ·obtain ⟨k1,k2,k3,k4,k5⟩ := h3.mem b x hb
    exact ⟨k1,k2,fun h => k3 h.1,k4,k5⟩
   ·simp only [if_neg (hnl b (h3.mem b x hb).2.2.1)]; exact h3.rmem b x hb
   ·have hb' : (if b ∈ Ds then Role.free else R b) ≠ .free := hb
    split at hb'
    ·exact absurd rfl hb'
    ·exact h3.rlt b hb'
  have hfm' := hfm.ext hxm fun b hb => by
   have hb' : (if b ∈ Ds then Role.free else R b) ≠ .free := hb
   split at hb'
   ·exact absurd rfl hb'
   ·rename_i hn; exact ⟨hk b hn,rfl⟩
  unfold vcRet at h5
  obtain ⟨G1,R1,hx1,hi1,hf1⟩ := freezes_sound (resSlots st' fn.results.toList) him' hfm'
  obtain ⟨l,vs,hk2,hr,hrun⟩ := vcRets_sound hE hf1 _ h5
  have hmem : ∀ (xs : List SV) (st : St),(st.freezes xs).mem = st.mem := by
   intro xs
   induction xs with
   | nil => intro st; rfl
   | cons x xs ih =>
    intro st
    cases x with
    | loc i off =>
     show ((st.freeze i).freezes xs).mem = st.mem
     rw [ih]
     unfold St.freeze
     split <;> rfl
    | _ => exact ih st
  let G2 : Gh := ⟨G1.com,G.lock,G.z⟩
  have hlk : ∀ b,G.lock b → G1.lock b := fun b hb => by
   rw [hx1.lock]
   refine ⟨h1.lock b hb,fun h => ?_⟩
   have := hi.lock b hb
   have := hbase b h
   omega
  have hW2 : G1.W0 = G.W0 := hx1.W0.trans hW
  have hx : Ext G w G2 w'' := by
   refine ⟨rfl,rfl,by rw [hsz'']; exact h1.size,fun b => Nat.le_trans (h1.com b) (hx1.com b),fun b i hb => ?_,fun b hb => ?_⟩
   ·have hb' : i < G'.com b := Nat.lt_of_lt_of_le hb (h1.com b)
    rw [cell_eq (hk b (hcells b (by omega)))]
    exact h1.cell b i hb
   ·have hnd' : b ∉ Ds := fun h => by have := hi.lock b hb; have := hbase b h; omega
    have hlm : Gm.lock b := ⟨h1.lock b hb,hnd'⟩
    exact ⟨(hk b hnd').trans (h1.held b hb).1,(hx1.held b hlm).2.trans (h1.held b hb).2⟩
  have hi2 : Inv G2 w'' := ⟨by have := hi1.below; rw [hW2] at this; exact this,hi1.com,fun b hb => hi1.lock b (hlk b hb)⟩
  refine ⟨(if h : vs.toArray.size = 1 then vs.toArray[0] else .tuple vs.toArray),?_,_,retVal l,st'.mem,G2,rfl,hx,hi2,?_,?_,hk2⟩
  ·rw [results_resOne]
   simp only [Array.mapM_eq_mapM_toList,Sem.run_bind,Sem.run_map,hrun,Result.andThen_ok,Sem.run_pure]
  ·have := hf1.mem
   rw [hmem] at this
   intro b x hb
   obtain ⟨k1,k2,k3,k4,k5⟩ := this b x hb
   exact ⟨by rw [← hW2]; exact k1,k2,fun h => k3 (hlk b h),k4,k5⟩
  ·rcases l with _ | ⟨x,_ | ⟨y,l⟩⟩
   ·obtain rfl := Reps.nil_inv hr
    exact rep_undef _ _
   ·obtain ⟨v,vs',rfl,hv,hr'⟩ := Reps.cons_inv hr
    obtain rfl := Reps.nil_inv hr'
    exact hv
   ·obtain ⟨v,vs',rfl,hv,hr'⟩ := Reps.cons_inv hr
    obtain ⟨v2,vs2,rfl,hv2,hr2⟩ := Reps.cons_inv hr'
    rw [dif_neg (by simp)]
    exact .tuple _ _ hr.1 hr.2
 cases e with
 | normal => exact fin h5
 | ret => exact fin h5
 | _ => exact h5.elim
end
end Go.Proofs.YtdmejgfcaacdoaaGreat.Abs
/- The abstract machine,part 20: loops over functions: the statement,and a round. -/
namespace Go.Proofs.YtdmejgfcaacdoaaGreat.Abs
set_option linter.unusedSimpArgs false
open Go Go.RowKit
def SV.av : SV → AV
 | .v x => x
 | _ => .top
def rangeK (l : Nat) (K : Exit → St → Prop) (st : St) (m' : Mem) : Prop :=
 match m' l with
 | some (.loop .busy _ _) => False
 | some (.loop _ none _) => K .normal { st with mem := upd m' l none }
 | some (.loop _ (some .ret) _) => K .ret { st with mem := upd m' l none }
 | some (.loop _ (some (.exit i)) _) => K (.exit i) { st with mem := upd m' l none }
 | _ => False
def roundK (l : Nat) (K : AV → Mem → Prop) (e : Exit) (st : St) : Prop :=
 match st.mem l with
 | some (.loop _ _ r) => match e with
  | .normal => K (.bool true) (upd st.mem l (some (.loop .ready none r)))
  | .ret => K (.bool false) (upd st.mem l (some (.loop .done (some .ret) r)))
  | .exit i => K (.bool false) (upd st.mem l (some (.loop .done (some (.exit i)) r)))
  | _ => False
 | _ => False
def laidV (f : Nat → SV) : List (Tmp × AV) → Nat → SV
 | [] => f
 | (t,x) :: r => laidV (upd f t (.v x)) r
def roundSt (r : LoopA) (xs : List AV) (m : Mem) : St where
 vals := laidV (fun i => .v (r.vals i)) (r.ps.toList.zip xs)
 own := fun _ => false
 loc := fun _ => none
 mem := m
def busyK (l : Nat) (K : St → Prop) (st : St) : Prop :=
 match st.mem l with
 | some (.loop .ready j r) => K { st with mem := upd st.mem l (some (.loop .busy j r)) }
 | _ => False
theorem ACall.forget {P : Program} {f : FuncId} {xs : List AV} {m : Mem} {K : AV → Mem → Prop} (h : ACall P f xs m fun r m' => ∃ m'',(∀ b x,m'' b = some x → m' b = some x) ∧ K r m'') : ACall P f xs m K :=
 ⟨h.enters,fun G w vs h1 h2 h3 => (h.does G w vs h1 h2 h3).mono fun _ _ ⟨v,r,_,G',he,hx,hi,hm,hr,m'',hs,hK⟩ => ⟨v,r,m'',G',he,hx,hi,fun b x hb => hm b x (hs b x hb),hr,hK⟩⟩
theorem AYield.mono {P : Program} {l : Nat} {xs : List AV} {m : Mem} {K K' : AV → Mem → Prop} (h : AYield P l xs m K) (hk : ∀ r m',K r m' → K' r m') : AYield P l xs m K' :=
 ⟨fun G w vs h1 h2 h3 => by
  obtain ⟨f,tmps,assign,body,e,hr⟩ := h.does G w vs h1 h2 h3
  exact ⟨f,tmps,assign,body,e,hr.mono fun _ _ ⟨v,r,m',G',he,hx,hi,hm,hr,hK⟩ => ⟨v,r,m',G',he,hx,hi,hm,hr,hk r m' hK⟩⟩⟩
section
variable {E : Env} {G : Gh} {w : World} {β : Nat → Nat} {R : Nat → Role} {a : Act} {st : St} {n : Nat}
theorem FRelB.lessMem (h : FRelB G w β R a st) {m : Mem} (hm : ∀ b x,m b = some x → st.mem b = some x) : FRelB G w β R a { st with mem := m } :=
 ⟨h.defers,h.vals,h.own,h.loc,h.ref,fun b x hb => h.mem b x (hm b x hb),fun b x hb => h.rmem b x (hm b x hb),h.rlt⟩
theorem FRelB.locked (h : FRelB G w β R a st) {D : Nat} (hR : R D = .free) : FRelB { G with lock := fun b => G.lock b ∨ b = D } w β R a st := by
 have ne : ∀ b,R b ≠ .free → b ≠ D := fun b hb e => hb (by rw [e]; exact hR)
 refine ⟨h.defers.ext rfl (Nat.le_refl _) (fun b hb => .inl hb) (fun _ _ => rfl),h.vals,fun s hs => ?_,fun i l hl => ?_,h.ref,fun b x hb => ?_,h.rmem,h.rlt⟩
 ·obtain ⟨sz,l,e,hv⟩ := h.own s hs
  refine ⟨sz,l,e,hv.imp id ?_⟩
  rintro ⟨b,len,cap,cs,el,k1,k2,k3,k4,k5,k6,k7,k8⟩
  exact ⟨b,len,cap,cs,el,k1,k2,fun hb => hb.elim k3 (ne b (by rw [k8]; simp)),k4,k5,k6,k7,k8⟩
 ·obtain ⟨⟨k1,k2,k3,k4⟩,k5⟩ := h.loc i l hl
  exact ⟨⟨k1,fun hb => hb.elim k2 (ne _ (by rw [k5]; simp)),k3,k4⟩,k5⟩
 ·obtain ⟨k1,k2,k3,k4,k5⟩ := h.mem b x hb
  exact ⟨k1,k2,fun hb' => hb'.elim k3 (ne b (by rw [h.rmem b x hb]; simp)),k4,k5⟩
theorem laidV_sound {com : Nat → Nat} : ∀ (ps : List Tmp) (xs : List AV) (vs : List Value) (tmps : Array Value) (f : Nat → SV),(∀ t ∈ ps,t < tmps.size) → xs.length = ps.length → Reps com w xs vs →
  (∀ s,SRep com w β (f s) (tmps.getD s undef)) → (∀ s i,¬ (f s).refs i) →
  (∀ s,SRep com w β (laidV f (ps.zip xs) s) (((ps.zip vs).foldl (fun tmps (t,a) => tmps.setIfInBounds t a) tmps).getD s undef)) ∧ (∀ s i,¬ (laidV f (ps.zip xs) s).refs i) ∧
   ((ps.zip vs).foldl (fun tmps (t,a) => tmps.setIfInBounds t a) tmps).size = tmps.size
 | [],_,_,tmps,f,_,_,_,h,h' => ⟨h,h',rfl⟩
 | t :: ps,[],_,_,_,_,hl,_,_,_ => by simp at hl
 | t :: ps,x :: xs,vs,tmps,f,ht,hl,hr,h,h' => by
  obtain ⟨v,vs',rfl,hv,hr'⟩ := Reps.cons_inv hr
  have hlt := ht t (by simp)
  have := laidV_sound ps xs vs' (tmps.setIfInBounds t v) (upd f t (.v x)) (fun t' ht' => by simp; exact ht t' (by simp [ht'])) (by simpa using hl) hr' (fun s => ?_) (fun s i => ?_)
  ·simp only [List.zip_cons_cons,laidV,List.foldl_cons]
   simpa using this
  ·by_cases e : s = t
   ·subst e
    rw [upd_same]
    simp [Array.getD,hlt]
    exact hv
   ·rw [upd_ne _ _ e]
    have e1 : (tmps.setIfInBounds t v).getD s undef = tmps.getD s undef := by
     have h' : t ≠ s := fun h => e h.symm
     simp [Array.getElem?_setIfInBounds_ne h']
    rw [e1]; exact h s
  ·by_cases e : s = t
   ·subst e; rw [upd_same]; exact id
   ·rw [upd_ne _ _ e]; exact h' s i
theorem ayield (hE : EnvOk E) (hrd : E.rd = true) {l : Nat} {m : Mem} {j : Option Code} {r : LoopA} {xs : List AV} {K : AV → Mem → Prop} (hl : m l = some (.loop .ready j r)) (hx : xs.length = r.ps.size)
  (hps : r.ps.toList.all (fun t => decide (t < r.n)) = true) (hca : codeOk r.n r.assign = true) (hcb : codeOk r.n r.body = true)
  (h : vc E r.n r.assign (fun e st1 => match e with | .normal => busyK l (vc E r.n r.body (roundK l K)) st1 | _ => False) (roundSt r xs m)) : AYield E.P l xs m K := by
 refine ⟨fun G w vs hi hm hr => ?_⟩
 obtain ⟨m1,m2,m3,m4,fn,tmps,d,hb,hsz,hv⟩ := hm l _ hl
 have hlen : vs.length = r.ps.size := hr.1.symm.trans hx
 have hy := run_yield (P := E.P) (args := vs.toArray) hb (by simp [hlen])
 refine ⟨_,_,_,_,hy,?_⟩
 let Gs : Gh := { G with z := (G.W0,w.heap.size) }
 have his : Inv Gs w := ⟨hi.below,hi.com,hi.lock⟩
 obtain ⟨l1,l2,l3⟩ := laidV_sound (w := w) (β := fun _ => 0) (com := G.com) r.ps.toList xs vs tmps (fun i => .v (r.vals i)) (fun t ht => by rw [hsz]; simpa using List.all_eq_true.1 hps t ht) (by simpa using hx) hr (fun s => hv s) (fun _ _ h => h)
 have e0 : (r.ps.zip vs.toArray).foldl (fun tmps (t,a) => tmps.setIfInBounds t a) tmps = (r.ps.toList.zip vs).foldl (fun tmps (t,a) => tmps.setIfInBounds t a) tmps := by
  rw [← Array.foldl_toList]; simp
 show RoundIn Fence.wide 0 E.P l fn ((r.ps.zip vs.toArray).foldl (fun tmps (t,a) => tmps.setIfInBounds t a) tmps) r.assign r.body w _
 rw [e0]
 generalize (r.ps.toList.zip vs).foldl (fun tmps (t,a) => tmps.setIfInBounds t a) tmps = tmps1 at l1 l3
 have hf : FRel Gs w ⟨tmps1,[]⟩ (roundSt r xs m) := by
  refine ⟨fun _ => 0,fun b => if (m b).isSome then .mem else .free,⟨Marks.nil (Nat.le_refl _),l1,fun s hs => by simp [roundSt] at hs,fun i l hl => by simp [roundSt] at hl,fun s i hs => (l2 s i hs).elim,hm,fun b x hb => ?_,fun b hb => ?_⟩⟩
  ·have : m b = some x := hb
   simp [this]
  ·by_cases h : (m b).isSome
   ·obtain ⟨x,hx⟩ := Option.isSome_iff_exists.1 h
    exact (hm b x hx).2.1
   ·simp [h] at hb
 refine roundIn_of_wpIn trivial (wpIn_mono (vc_sound hE _ hca h (some l) hrd.symm Gs w _ his hf (by rw [l3]; exact hsz)) ?_)
 rintro e a1 w1 ⟨G1,st1,x1,i1,⟨β1,R1,f1⟩,s1,k1⟩
 cases e with
 | normal =>
  simp only [Exit.then]
  have k1 : busyK l (vc E r.n r.body (roundK l K)) st1 := k1
  unfold busyK at k1
  split at k1
  ·rename_i j1 r1 hl1
   obtain ⟨_,q2,_,_,fn1,tm1,d1,q3,q4,q5⟩ := f1.mem l _ hl1
   refine ⟨_,run_beginRound q3 rfl,?_⟩
   obtain ⟨y1,y2,y3⟩ := f1.mset i1 hl1 (o := .loop { state := .busy,pending := j1,fn := fn1,tmps := tm1,params := r1.ps,assign := r1.assign,body := r1.body,defers := d1 }) (y := .loop .busy j1 r1)
    (fun w' hw' hx' => ⟨fn1,tm1,d1,hw',q4,fun i => (q5 i).ext hx'⟩) none (fun t ht => by cases ht)
   refine wpIn_mono (vc_sound hE _ hcb k1 (some l) hrd.symm G1 _ a1 y2 ⟨β1,R1,y3⟩ s1) ?_
   rintro e a2 w2 ⟨G2,st2,x2,i2,⟨β2,R2,f2⟩,s2,k2⟩
   have fin : ∀ (jump : Option Code) (j2 : Option Code) (sx : LoopState) (r2 : LoopA),st2.mem l = some (.loop sx j2 r2) → K (.bool jump.isNone) (upd st2.mem l (some (.loop (if jump.isNone then .ready else .done) jump r2))) →
     ∃ v w',(Instr.endRound l jump).run E.P w2 = .ok v w' ∧ ∃ v' r m' G',Ending.returned v = .returned v' ∧ Ext G w G' w' ∧ Inv G' w' ∧ MemRep G' w' m' ∧ Rep G'.com w' r v' ∧ K r m' := by
    intro jump j2 sx r2 hl2 hk
    obtain ⟨_,_,_,_,fn2,tm2,d2,p3,p4,p5⟩ := f2.mem l _ hl2
    refine ⟨_,_,run_endRound jump p3,?_⟩
    obtain ⟨z1,z2,z3⟩ := f2.mset i2 hl2 (o := .loop { state := if jump.isNone then .ready else .done,pending := jump,fn := fn2,tmps := tm2,params := r2.ps,assign := r2.assign,body := r2.body,defers := d2 })
     (y := .loop (if jump.isNone then .ready else .done) jump r2) (fun w' hw' hx' => ⟨fn2,tm2,d2,hw',p4,fun i => (p5 i).ext hx'⟩) none (fun t ht => by cases ht)
    have xall : ExtL Gs w G2 _ := (x1.trans y1.toL).trans (x2.trans z1.toL)
    have hz : G2.W0 = G.W0 := by
     have := xall.z
     unfold Gh.W0; rw [this]
    refine ⟨_,.bool jump.isNone,_,⟨G2.com,G.lock,G.z⟩,rfl,?_,?_,?_,.bool _,hk⟩
    ·exact ⟨rfl,rfl,xall.size,xall.com,xall.cell,xall.held⟩
    ·exact ⟨by have := z2.below; rw [hz] at this; exact this,z2.com,fun b hb => z2.lock b (xall.lock b hb)⟩
    ·intro b x hb
     obtain ⟨k1,k2,k3,k4,k5⟩ := z3.mem b x hb
     exact ⟨by rw [← hz]; exact k1,k2,fun hl => k3 (xall.lock b hl),k4,k5⟩
   unfold roundK at k2
   split at k2
   ·rename_i sx j2 r2 hl2
    cases e with
    | normal => exact fin none j2 sx r2 hl2 k2
    | ret => exact fin (some .ret) j2 sx r2 hl2 k2
    | exit id => exact fin (some (.exit id)) j2 sx r2 hl2 k2
    | goto t => exact k2.elim
    | panic c => exact k2.elim
    | outgrown => exact k2.elim
   ·exact k2.elim
  ·exact k1.elim
 | _ => exact k1.elim
theorem arange (hrd : E.rd = false) {g : Operand} {ps : Array Tmp} {assign body : Code} {K : Exit → St → Prop} {f : FuncId} {first caps : List AV} (hg : st.sv E.T 0 g = .v (.fn (.func f) first caps))
  (h : ∀ l,st.mem l = none → ACall E.P f (first ++ [.fn (.yield l) [] []] ++ caps) (upd st.mem l (some (.loop .ready none ⟨ps,assign,body,n,fun i => (st.vals i).av⟩))) fun _ m' => rangeK l K st m') :
  ARange E n g ps assign body K st .mk := by
 refine ⟨fun r hr G w a hi ⟨β,R,hf⟩ hs => ?_⟩
 have hr' : r = none := by cases r with | none => rfl | some x => rw [hrd] at hr; cases hr
 subst hr'
 -- the block for deferred calls
 have hfree : R w.heap.size = .free := by
  cases e : R w.heap.size with
  | free => rfl
  | _ => have := hf.rlt _ (by rw [e]; simp); omega
 have h0 : G.com w.heap.size = 0 := hi.com_new (Nat.le_refl _)
 obtain ⟨x1,i1⟩ := alloc_grow hi (.deferred (some [])) 0 (fun h => absurd rfl h)
 have f1 := hf.alloc hi (.deferred (some [])) 0 (fun h => absurd rfl h)
 rw [setCom_zero G h0] at x1 i1 f1
 have f1 := f1.locked hfree
 let G1 : Gh := { G with lock := fun b => G.lock b ∨ b = w.heap.size }
 have i1' : Inv G1 (w.alloc (.deferred (some []))) := ⟨i1.below,i1.com,fun b hb => by
  rcases hb with hb | rfl
  ·exact i1.lock b hb
  ·simp⟩
 have hD : (w.alloc (.deferred (some []))).heap[w.heap.size]? = some (.deferred (some [])) := heap_alloc_new _ _
 let a1 : Act := { a with defers := [{ target := .collected w.heap.size,args := #[] }] ++ a.defers }
 have f1' : FRelB G1 (w.alloc (.deferred (some []))) β R a1 st := by
  obtain ⟨d0,Ds,d1,d2,d3⟩ := f1.defers
  have hb0 : G.base ≤ w.heap.size := hf.defers.1
  refine ⟨⟨d0,w.heap.size :: Ds,by simp [a1,d1],List.nodup_cons.2 ⟨fun hm => ?_,d2⟩,fun D hD' => ?_⟩,f1.vals,f1.own,f1.loc,f1.ref,f1.mem,f1.rmem,f1.rlt⟩
  ·obtain ⟨_,Ds',e1,_,e3⟩ := hf.defers
   have : w.heap.size ∈ Ds' := by
    have : Ds = Ds' := by
     have := d1.symm.trans e1
     exact (List.map_inj_right (fun x y h => by simpa using h)).1 this
    rw [← this]; exact hm
   have := hi.lock _ (e3 _ this).2.1
   omega
  ·rcases List.mem_cons.1 hD' with rfl | hD'
   ·exact ⟨hb0,.inr rfl,hD⟩
   ·exact d3 D hD'
 -- the record
 generalize hw1 : w.alloc (.deferred (some [])) = w1 at *
 have hsz1 : w1.heap.size = w.heap.size + 1 := by rw [← hw1]; simp
 have xl : ExtL G w G1 w1 := ⟨rfl,fun b hb => .inl hb,x1.size,x1.com,x1.cell,x1.held⟩
 clear f1 x1 i1 hf
 refine wpIn_rangeFunc fun fn _ => ?_
 obtain ⟨hn,x2,i2,β2,R2,f2⟩ := f1'.fresh i1' (d := none) (fun t ht => by cases ht) (x := .nilptr) (v := .pointer none)
  (o := .loop { state := .ready,pending := none,fn,tmps := a.tmps,params := ps,assign,body,defers := w.heap.size }) (y := .loop .ready none ⟨ps,assign,body,n,fun i => (st.vals i).av⟩)
  (fun w' hw' hx' => ⟨fn,a.tmps,w.heap.size,hw',hs,fun i => by
   have := f1'.vals i
   show Rep _ _ (st.vals i).av _
   revert this
   generalize st.vals i = x
   cases x with
   | v x => exact fun h => Rep.ext hx' h
   | _ => exact fun _ => .top _⟩) (fun _ _ => .nilptr)
 have hl1 : w.heap.size + 1 = w1.heap.size := hsz1.symm
 rw [← hl1] at hn f2
 have hfv := f2.eval E.T 0 g
 have hgsv : (St.eff st none (.mput .nilptr (w.heap.size + 1) (.loop .ready none ⟨ps,assign,body,n,fun i => (st.vals i).av⟩))).sv E.T 0 g = .v (.fn (.func f) first caps) := hg
 rw [hgsv] at hfv
 obtain ⟨fs,cs,hval,hrf,hrc⟩ := rep_fn (srep_v hfv)
 have hval' : a.eval g = .func (.func f) fs.toArray cs.toArray := hval
 have hall := (hrf.append (Reps.cons (Rep.fn (.yield (w.heap.size + 1)) [] [] [] [] rfl rfl (fun i x v h => by simp at h) (fun i x v h => by simp at h)) Reps.nil)).append hrc
 have hA := h _ hn
 have hcall := call_sound i2 f2 (E := E) hA hall
 let W2 : World := w1.alloc (.loop { state := .ready,pending := none,fn,tmps := a.tmps,params := ps,assign,body,defers := w.heap.size })
 refine ⟨w.heap.size + 1,[{ target := .collected w.heap.size,args := #[] }],W2,⟨.fn (.func f) cs.toArray,fs.toArray ++ #[.func (.yield (w.heap.size + 1)) #[] #[]]⟩,W2,f,fs.toArray ++ #[.func (.yield (w.heap.size + 1)) #[] #[]] ++ cs.toArray,W2,?_,?_,fun _ _ => fen_fn none _,?_,fen_depth none,?_⟩
 ·have := run_enterLoop_outer (P := E.P) (w := w) fn a.tmps ps assign body
  rw [hw1] at this
  exact this
 ·have hval2 : Act.eval a g = Value.func (.func f) fs.toArray cs.toArray := hval
  have hk : Act.eval a (.const (.func (.yield (w.heap.size + 1)) #[] #[])) = .func (.yield (w.heap.size + 1)) #[] #[] := rfl
  have hm : Array.map (Act.eval a) #[Operand.const (.func (.yield (w.heap.size + 1)) #[] #[])] = #[.func (.yield (w.heap.size + 1)) #[] #[]] := by simp [hk]
  simp only [resolve,rangeCall,hval2,Deferred.ofValue,hm]
  rfl
 ·show (invoke _ _).run _ _ = _
  unfold invoke
  exact hA.enters _ _
 ·have e2 : (fs.toArray ++ #[Value.func (.yield (w.heap.size + 1)) #[] #[]] ++ cs.toArray) = (fs ++ [Value.func (.yield (w.heap.size + 1)) #[] #[]] ++ cs).toArray := by
   apply Array.ext'; simp
  rw [e2]
  refine (calls_fen hcall).mono ?_
  rintro e w3 ⟨v,r,m',G3,R3,rfl,x3,i3,f3,_,hK⟩
  have fin : ∀ (c : Option Code) (sx : LoopState) (r3 : LoopA),sx ≠ .busy → m' (w.heap.size + 1) = some (.loop sx c r3) → ∃ w4,(Instr.endLoop (w.heap.size + 1)).run E.P w3 = .ok c w4 ∧ ExtL G w G3 w4 ∧ Inv G3 w4 ∧ FRel G3 w4 a1 { st with mem := upd m' (w.heap.size + 1) none } := by
   intro c sx r3 hb hl3
   obtain ⟨_,_,_,_,fn2,tm2,d2,p3,p4,p5⟩ := f3.mem _ _ hl3
   refine ⟨_,run_endLoop p3 hb,?_⟩
   obtain ⟨z1,z2,z3⟩ := f3.mset i3 hl3 (o := .loop { state := .exhausted,pending := c,fn := fn2,tmps := tm2,params := r3.ps,assign := r3.assign,body := r3.body,defers := d2 })
    (y := .loop .exhausted c r3) (fun w' hw' hx' => ⟨fn2,tm2,d2,hw',p4,fun i => (p5 i).ext hx'⟩) none (fun t ht => by cases ht)
   refine ⟨xl.trans ((x2.trans x3).trans z1).toL,z2,β2,R3,?_⟩
   exact z3.lessMem (m := upd m' (w.heap.size + 1) none) fun b x hb => by
    by_cases e : b = w.heap.size + 1
    ·subst e; rw [upd_same] at hb; cases hb
    ·rw [upd_ne _ _ e] at hb
     show upd m' (w.heap.size + 1) _ b = some x
     rw [upd_ne _ _ e]; exact hb
  have hsz3 : a1.tmps.size = n := hs
  unfold rangeK at hK
  split at hK
  ·exact hK.elim
  ·rename_i sx r3 hb hl3
   obtain ⟨w4,q1,q2,q3,q4⟩ := fin none sx r3 (fun e => by subst e; exact hb rfl) hl3
   exact ⟨none,w4,q1,G3,_,q2,q3,q4,hsz3,hK⟩
  ·rename_i sx r3 hb hl3
   obtain ⟨w4,q1,q2,q3,q4⟩ := fin (some .ret) sx r3 (fun e => by subst e; exact hb rfl) hl3
   exact ⟨some .ret,w4,q1,wpIn_ret ⟨G3,_,q2,q3,q4,hsz3,hK⟩⟩
  ·rename_i sx i r3 hb hl3
   obtain ⟨w4,q1,q2,q3,q4⟩ := fin (some (.exit i)) sx r3 (fun e => by subst e; exact hb rfl) hl3
   exact ⟨some (.exit i),w4,q1,wpIn_exit ⟨G3,_,q2,q3,q4,hsz3,hK⟩⟩
  ·exact hK.elim
end
end Go.Proofs.YtdmejgfcaacdoaaGreat.Abs
/- The abstract machine,part 17: how it is shown that what is said of a type is so. -/
namespace Go.Proofs.YtdmejgfcaacdoaaGreat.Abs
set_option linter.unusedSimpArgs false
open Go Go.RowKit
theorem rep_agg_of {com : Nat → Nat} {w : World} {l : List AV} {vs : Array Value} (h : Reps com w l vs.toList) : Rep com w (.agg l) (.agg vs) := by
 have := Rep.agg l vs.toList h.1 h.2
 simpa using this
section
variable {P : Program} {t : TypeId} {f : TypeInfo}
theorem tyOk_int {k : IntKind} (h : P.info? t = some f) (hs : f.size = 1) (hz : f.zero = some (.int k 0)) (hu : P.underlying t = some (.int k)) {b : Nat} (hb : f.bytes = b) : TyOk P t ⟨.int k,1,b,[.int k 0]⟩ where
 ex := ⟨f,_,_,h,hs,hb,hz,hu,rfl,fun _ _ => .int _ _,by simp [TyI.agg]⟩
 zc := ⟨rfl,rfl,rfl,rfl⟩
 pl fields hf := by rw [hu] at hf; simp at hf
theorem tyOk_bool (h : P.info? t = some f) (hs : f.size = 1) (hz : f.zero = some (.bool false)) (hu : P.underlying t = some .bool) {b : Nat} (hb : f.bytes = b) : TyOk P t ⟨.bool,1,b,[.bool false]⟩ where
 ex := ⟨f,_,_,h,hs,hb,hz,hu,trivial,fun _ _ => .bool _,by simp [TyI.agg]⟩
 zc := ⟨rfl,rfl,rfl,rfl⟩
 pl fields hf := by rw [hu] at hf; simp at hf
theorem tyOk_string (h : P.info? t = some f) (hs : f.size = 1) (hz : f.zero = some (.string ByteArray.empty)) (hu : P.underlying t = some .string) {b : Nat} (hb : f.bytes = b) : TyOk P t ⟨.string,1,b,[.str ByteArray.empty]⟩ where
 ex := ⟨f,_,_,h,hs,hb,hz,hu,trivial,fun _ _ => .str _,by simp [TyI.agg]⟩
 zc := ⟨rfl,rfl,rfl,rfl⟩
 pl fields hf := by rw [hu] at hf; simp at hf
theorem tyOk_slice {e sz : Nat} (h : P.info? t = some f) (hs : f.size = 1) (hz : f.zero = some (.slice none 0 0)) (hu : P.underlying t = some (.slice e)) {b : Nat} (hb : f.bytes = b) : TyOk P t ⟨.slice e,1,b,[.slice sz []]⟩ where
 ex := ⟨f,_,_,h,hs,hb,hz,hu,rfl,fun _ _ => .nilslice _,by simp [TyI.agg]⟩
 zc := ⟨rfl,rfl,rfl,rfl⟩
 pl fields hf := by rw [hu] at hf; simp at hf
theorem tyOk_sliceN {e : Nat} (h : P.info? t = some f) (hs : f.size = 1) (hz : f.zero = some (.slice none 0 0)) (hu : P.underlying t = some (.slice e)) {b : Nat} (hb : f.bytes = b) : TyOk P t ⟨.slice e,1,b,[.mslice 0 0 0 0]⟩ where
 ex := ⟨f,_,_,h,hs,hb,hz,hu,rfl,fun _ _ => .nilm _ _,by simp [TyI.agg]⟩
 zc := ⟨rfl,rfl,rfl,rfl⟩
 pl fields hf := by rw [hu] at hf; simp at hf
theorem tyOk_map {k e : Nat} (h : P.info? t = some f) (hs : f.size = 1) (hz : f.zero = some (.map none)) (hu : P.underlying t = some (.map k e)) {b : Nat} (hb : f.bytes = b) : TyOk P t ⟨.map k e,1,b,[.nilmap]⟩ where
 ex := ⟨f,_,_,h,hs,hb,hz,hu,⟨rfl,rfl⟩,fun _ _ => .nilmap,by simp [TyI.agg]⟩
 zc := ⟨rfl,rfl,rfl,rfl⟩
 pl fields hf := by rw [hu] at hf; simp at hf
theorem tyOk_ptr {e : Nat} (h : P.info? t = some f) (hs : f.size = 1) (hz : f.zero = some (.pointer none)) (hu : P.underlying t = some (.pointer e)) {b : Nat} (hb : f.bytes = b) : TyOk P t ⟨.one,1,b,[.nilptr]⟩ where
 ex := ⟨f,_,_,h,hs,hb,hz,hu,trivial,fun _ _ => .nilptr,by simp [TyI.agg]⟩
 zc := ⟨rfl,rfl,rfl,rfl⟩
 pl fields hf := by rw [hu] at hf; simp at hf
theorem tyOk_func {ps rs : Array TypeId} {v : Bool} (h : P.info? t = some f) (hs : f.size = 1) (hz : f.zero = some .nilFunc) (hu : P.underlying t = some (.func ps rs v)) {b : Nat} (hb : f.bytes = b) : TyOk P t ⟨.one,1,b,[.nilfunc]⟩ where
 ex := ⟨f,_,_,h,hs,hb,hz,hu,trivial,fun _ _ => .nilfunc,by simp [TyI.agg]⟩
 zc := ⟨rfl,rfl,rfl,rfl⟩
 pl fields hf := by rw [hu] at hf; simp at hf
theorem tyOk_array {n e : Nat} {zs : List AV} {vs : Array Value} (h : P.info? t = some f) (hz : f.zero = some (.agg vs)) (hu : P.underlying t = some (.array n e)) {b : Nat} (hb : f.bytes = b)
  {s : Nat} (hs : f.size = s) (hr : ∀ com w,Reps com w zs vs.toList) (hl : zs.length = s) (hfl : zs.all flat = true) : TyOk P t ⟨.array n e,s,b,zs⟩ where
 ex := ⟨f,_,_,h,hs,hb,hz,hu,⟨rfl,rfl⟩,fun com w => rep_agg_of (hr com w),by simp [TyI.agg]⟩
 zc := ⟨rfl,rfl,hl,hfl⟩
 pl fields hf := by rw [hu] at hf; simp at hf
theorem tyOk_struct {fields : Array Field} {fs : List (Nat × TypeId)} {zs : List AV} {vs : Array Value} (h : P.info? t = some f) (hz : f.zero = some (.agg vs)) (hu : P.underlying t = some (.struct fields)) {b : Nat} (hb : f.bytes = b)
  {s : Nat} (hs : f.size = s) (hfs : fields.toList.map (fun f => (f.offset,f.type)) = fs) (hr : ∀ com w,Reps com w zs vs.toList) (hl : zs.length = s) (hfl : zs.all flat = true)
  (hp : (fields.toList.mapM (fun f => (P.info? f.type).map fun i => (f.offset,i.size))).isSome = true) : TyOk P t ⟨.struct fs,s,b,zs⟩ where
 ex := ⟨f,_,_,h,hs,hb,hz,hu,hfs,fun com w => rep_agg_of (hr com w),by simp [TyI.agg]⟩
 zc := ⟨rfl,rfl,hl,hfl⟩
 pl fields' hf := by rw [hu] at hf; simp at hf; subst hf; exact Option.isSome_iff_exists.1 hp
end
end Go.Proofs.YtdmejgfcaacdoaaGreat.Abs
/- The abstract machine,part 21: memory that never changes from here on (melt). -/
namespace Go.Proofs.YtdmejgfcaacdoaaGreat.Abs
set_option linter.unusedSimpArgs false
open Go Go.RowKit
def meltA (b sz : Nat) (es : List AV) : AV → AV
 | .mslice b' 0 n c => if b' = b ∧ n = es.length ∧ n ≤ c ∧ c ≤ maxLen then .slice sz es else .mslice b' 0 n c
 | x => x
def meltV (b sz : Nat) (es : List AV) : SV → SV
 | .v x => .v (meltA b sz es x)
 | y => y
def St.melt (st : St) (b sz : Nat) (es : List AV) : St where
 vals := fun s => meltV b sz es (st.vals s)
 own := st.own
 loc := fun i => (st.loc i).map (List.map (meltA b sz es))
 mem := upd st.mem b none
theorem Reps.split {com : Nat → Nat} {w : World} : ∀ {l l' : List AV} {cs : List Value},Reps com w (l ++ l') cs → ∃ c c',cs = c ++ c' ∧ Reps com w l c ∧ Reps com w l' c'
 | [],l',cs,h => ⟨[],cs,rfl,Reps.nil,h⟩
 | x :: l,l',cs,h => by
  obtain ⟨v,cs',rfl,hv,h⟩ := Reps.cons_inv h
  obtain ⟨c,c',rfl,h1,h2⟩ := Reps.split h
  exact ⟨v :: c,c',rfl,Reps.cons hv h1,h2⟩
theorem row_flatten {com : Nat → Nat} {w : World} {sz : Nat} : ∀ {es : List AV} {cs : List Value},(∀ e ∈ es,e.cells.length = sz) → Reps com w (es.map AV.cells).flatten cs → RowRep com w sz es cs
 | [],cs,_,h => by
  obtain rfl := Reps.nil_inv h
  exact RowRep.nil sz
 | e :: es,cs,hs,h => by
  obtain ⟨c,c',rfl,h1,h2⟩ := Reps.split (l := e.cells) h
  exact RowRep.cons h1 (hs e (by simp)) (row_flatten (fun x hx => hs x (by simp [hx])) h2)
theorem rep_melt {com : Nat → Nat} {w : World} {b sz : Nat} {es : List AV} {cs : List Value} (hr : RowRep com w sz es cs) (hf : ∀ e ∈ es,e.cells.all flat = true) (hc : es.length * sz ≤ com b)
  (hw : ∀ i,i < es.length * sz → w.cell? ⟨b,i,none⟩ = cs[i]?) {x : AV} {v : Value} (h : Rep com w x v) : Rep com w (meltA b sz es x) v := by
 unfold meltA
 split
 ·rename_i b' n c
  split
  ·rename_i hcond
   obtain ⟨rfl,rfl,h1,h2⟩ := hcond
   rcases rep_mslice h with e | ⟨e1,_,e⟩
   ·rw [e]
    exact hr.slice hf h1 h2 (by omega) (fun i hi => by rw [Nat.zero_add]; exact hw i hi)
   ·rw [e,List.eq_nil_of_length_eq_zero e1]
    exact .nilslice sz
  ·exact h
 ·exact h
section
variable {E : Env} {G : Gh} {w : World} {β : Nat → Nat} {R : Nat → Role} {a : Act} {st : St} {n : Nat}
theorem FRelB.melt (h : FRelB G w β R a st) (hi : Inv G w) {b sz : Nat} {es tail : List AV} (hb : st.mem b = some (.cells ((es.map AV.cells).flatten ++ tail))) (hs : ∀ e ∈ es,e.cells.length = sz ∧ e.cells.all flat = true) :
  Ext G w (G.setCom b (es.length * sz)) w ∧ Inv (G.setCom b (es.length * sz)) w ∧ FRelB (G.setCom b (es.length * sz)) w β R a (st.melt b sz es) := by
 obtain ⟨m1,m2,m3,m4,cs,e,m5,m6⟩ := h.mem b _ hb
 have hR := h.rmem b _ hb
 have hx : Ext G w (G.setCom b (es.length * sz)) w := by
  refine ⟨rfl,rfl,Nat.le_refl _,fun k => ?_,fun _ _ _ => rfl,fun k hk => ⟨rfl,?_⟩⟩
  ·by_cases e : k = b
   ·subst e; rw [m4]; exact Nat.zero_le _
   ·simp [Gh.setCom,upd_ne _ _ e]
  ·have : k ≠ b := by rintro rfl; exact m3 hk
   simp [Gh.setCom,upd_ne _ _ this]
 obtain ⟨c,c',rfl,r1,r2⟩ := Reps.split m6
 have hrow : RowRep (G.setCom b (es.length * sz)).com w sz es c := (row_flatten (fun e he => (hs e he).1) r1).mono fun x v h => h.ext hx
 have hlen := hrow.1
 have hcell : ∀ i,i < es.length * sz → w.cell? ⟨b,i,none⟩ = c[i]? := fun i hi => by
  rw [cell_block m5,List.getElem?_append_left (by omega)]
 have hrep : ∀ {x v},Rep G.com w x v → Rep (G.setCom b (es.length * sz)).com w (meltA b sz es x) v := fun hr =>
  rep_melt hrow (fun e he => (hs e he).2) (by simp [Gh.setCom,upd_same]) hcell (hr.ext hx)
 refine ⟨hx,⟨hi.below,fun k hk => ?_,hi.lock⟩,?_⟩
 ·by_cases e : k = b
  ·subst e
   refine ⟨_,_,_,m5,?_⟩
   simp only [Gh.setCom,upd_same,List.size_toArray,List.length_append]; omega
  ·have hk' : G.com k ≠ 0 := by simpa [Gh.setCom,upd_ne _ _ e] using hk
   have := hi.com k hk'
   simpa [Gh.setCom,upd_ne _ _ e] using this
 ·have hne : ∀ k,R k ≠ .mem → k ≠ b := fun k hk e => hk (by rw [e]; exact hR)
  have hf := h
  refine ⟨h.defers.step hx,fun s => ?_,fun s hs' => ?_,fun i l hl => ?_,fun s i hr => ?_,fun k y hk => ?_,fun k y hk => ?_,h.rlt⟩
  ·have := h.vals s
   show SRep _ _ _ (meltV b sz es (st.vals s)) _
   revert this
   generalize st.vals s = x
   cases x with
   | v x => exact fun h => hrep h
   | _ => exact fun h => h
  ·obtain ⟨sz',l,e1,hv⟩ := h.own s hs'
   show Own _ _ _ _ _ (meltV b sz es (st.vals s))
   rw [e1]
   refine ⟨sz',l,rfl,hv.imp id ?_⟩
   rintro ⟨k,len,cap,cs',el,h1,h2,h3,h4,h5,h6,h7,h8⟩
   have hkb : k ≠ b := hne k (by rw [h8]; simp)
   exact ⟨k,len,cap,cs',el,h1,h2,h3,h4,h5,h6,by simp [Gh.setCom,upd_ne _ _ hkb,h7],h8⟩
  ·have hl' : (st.loc i).map (List.map (meltA b sz es)) = some l := hl
   cases hl0 : st.loc i with
   | none => rw [hl0] at hl'; cases hl'
   | some l0 =>
    rw [hl0] at hl'
    simp only [Option.map_some,Option.some.injEq] at hl'
    subst hl'
    obtain ⟨⟨k1,k2,k3,cs',e',k4,k5⟩,k6⟩ := h.loc i l0 hl0
    have hkb : β i ≠ b := hne _ (by rw [k6]; simp)
    refine ⟨⟨k1,k2,by simp [Gh.setCom,upd_ne _ _ hkb,k3],cs',e',k4,by simp [k5.1],fun j x v hx' hv => ?_⟩,k6⟩
    rw [List.getElem?_map] at hx'
    cases hj : l0[j]? with
    | none => rw [hj] at hx'; cases hx'
    | some y =>
     rw [hj] at hx'
     simp only [Option.map_some,Option.some.injEq] at hx'
     subst hx'
     exact hrep (k5.2 j y v hj hv)
  ·have hr' : (st.vals s).refs i := by
    have : (meltV b sz es (st.vals s)).refs i := hr
    revert this
    generalize st.vals s = x
    cases x <;> exact id
   have := h.ref s i hr'
   show (st.loc i).map _ ≠ none
   cases hl0 : st.loc i with
   | none => exact absurd hl0 this
   | some l0 => simp
  ·have hk' : upd st.mem b none k = some y := hk
   by_cases e : k = b
   ·subst e; rw [upd_same] at hk'; cases hk'
   ·rw [upd_ne _ _ e] at hk'
    obtain ⟨k1,k2,k3,k4,k5⟩ := h.mem k y hk'
    exact ⟨k1,k2,k3,by simp [Gh.setCom,upd_ne _ _ e,k4],k5.ext hx rfl⟩
  ·have hk' : upd st.mem b none k = some y := hk
   by_cases e : k = b
   ·subst e; rw [upd_same] at hk'; cases hk'
   ·rw [upd_ne _ _ e] at hk'
    exact h.rmem k y hk'
theorem acut_melt (hE : EnvOk E) {ops : Array Oper} {K : St → Prop} {α : Type} (I : α → Head) (J : α → Prop) (b sz : α → Nat) (es tail : α → List AV) (hok : ∀ x,(I x).ok = true)
  (h : vcOps E ops ops.toList (fun st' => ∃ x,J x ∧ (∃ c,st'.mem = c ∧ c (b x) = some (.cells (((es x).map AV.cells).flatten ++ tail x)) ∧ ∀ e ∈ es x,e.cells.length = sz x ∧ e.cells.all flat = true) ∧ Fits (st'.melt (b x) (sz x) (es x)) (I x)) st)
  (hk : ∀ x,J x → K (I x).st) : ACut E n ops K st .mk := by
 refine ⟨fun hc id r hrd G w a hi hf hs => wpIn_region_list (vcOps_sound hE ops.toList h hc hi hf hs ?_)⟩
 rintro a' w' G' st' hx hi' ⟨β,R,hf'⟩ hs' ⟨x,hj,⟨c,rfl,hc1,hc2⟩,hfit⟩
 obtain ⟨x1,i1,f1⟩ := hf'.melt hi' hc1 hc2
 exact ⟨_,(I x).st,(hx.trans x1).toL,i1,FRel.weaken ⟨β,R,f1⟩ hfit (hok x),hs',rfl,hk x hj⟩
end
end Go.Proofs.YtdmejgfcaacdoaaGreat.Abs
