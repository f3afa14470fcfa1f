/- Lemmas for the statements of this seat (X6): they hold without conditions beyond those that each one states. -/
import Derived.Test.YtdmejgfcaacdoaaGreatX5
import Derived.Still
/- The abstract machine,part 22: a slice that is appended to an empty one becomes memory of its own,whose elements can be written (thaw). -/
namespace Go.Proofs.YtdmejgfcaacdoaaGreat.Abs
set_option linter.unusedSimpArgs false
open Go Go.RowKit
theorem flatten_row {com : Nat → Nat} {w : World} {sz : Nat} : ∀ {es : List AV} {cs : List Value},RowRep com w sz es cs → Reps com w (es.map AV.cells).flatten cs
 | [],cs,h => by
  have : cs = [] := by have := h.1; simpa using this
  subst this; exact Reps.nil
 | e :: es,cs,h => by
  obtain ⟨h1,h2,h3⟩ := h
  have he := h2 e (by simp)
  have hl : cs.length = es.length * sz + sz := by rw [h1,List.length_cons,Nat.add_mul,Nat.one_mul]
  have ht : RowRep com w sz es (cs.drop sz) := by
   refine ⟨by rw [List.length_drop]; omega,fun x hx => h2 x (by simp [hx]),fun k x j y v hk hj hv => ?_⟩
   refine h3 (k + 1) x j y v (by simpa using hk) hj ?_
   rw [List.getElem?_drop] at hv
   rw [← hv]; congr 1; rw [Nat.add_mul]; omega
  have hh : Reps com w e.cells (cs.take sz) := by
   refine ⟨by rw [List.length_take]; omega,fun i x v hx hv => ?_⟩
   have hi := (List.getElem?_eq_some_iff.1 hx).1
   rw [List.getElem?_take,if_pos (by omega)] at hv
   exact h3 0 e i x v rfl hx (by simpa using hv)
  have := Reps.append hh (flatten_row ht)
  rw [List.take_append_drop] at this
  exact this
theorem reps_top {com : Nat → Nat} {w : World} (cs : List Value) : Reps com w (List.replicate cs.length .top) cs :=
 ⟨by simp,fun i x v hx _ => by rw [List.getElem?_replicate] at hx; split at hx <;> simp at hx; subst hx; exact .top _⟩
section
variable {E : Env} {G : Gh} {w : World} {β : Nat → Nat} {R : Nat → Role} {a : Act} {st : St} {n : Nat}
theorem vcOps_pre (hE : EnvOk E) {ops : Array Oper} : ∀ (l : List Oper) {K : St → Prop} {st : St} {r : Option Nat},vcOps E ops l K st → l.all (dstOk n) = true →
  ∀ {G : Gh} {w : World} {a : Act},Inv G w → FRel G w a st → a.tmps.size = n → ∀ {Q : Exit → Act → World → Prop} {tl : List Oper},(∀ a' w' G' st',Ext G w G' w' → Inv G' w' → FRel G' w' a' st' → a'.tmps.size = n → K st' → wpListIn (fen r) 0 E.P ops Q tl a' w') →
  wpListIn (fen r) 0 E.P ops Q (l ++ tl) a w
 | [],K,st,r,h,_,G,w,a,hi,hf,hs,Q,tl,hQ => hQ a w G st (Ext.refl _ _) hi hf hs h
 | o :: rest,K,st,r,h,hd,G,w,a,hi,hf,hs,Q,tl,hQ => by
  simp only [List.all_cons,Bool.and_eq_true] at hd
  obtain ⟨hd1,hd2⟩ := hd
  have yes : ∀ st1,FRel G w a st1 → vcOp E o (vcOps E ops rest K) st1 → Region.wanted o (yielded ops a.tmps) = true → wpListIn (fen r) 0 E.P ops Q (o :: (rest ++ tl)) a w := by
   intro st1 hf1 h hw
   unfold wpListIn
   rw [if_pos hw]
   exact (vcOp_sound hE h hd1 hi hf1 hs fun a' w' G' st' hx hi' hf' hs' hk =>
    vcOps_pre hE rest hk hd2 hi' hf' hs' fun a'' w'' G'' st'' hx' hi'' hf'' hs'' hk' => hQ a'' w'' G'' st'' (hx.trans hx') hi'' hf'' hs'' hk')
  have no : ∀ st1,FRel G w a st1 → vcOps E ops rest K (st1.put o.dst undefS false) → Region.wanted o (yielded ops a.tmps) = false → wpListIn (fen r) 0 E.P ops Q (o :: (rest ++ tl)) a w := by
   intro st1 ⟨β,R,hf1⟩ h hw
   unfold wpListIn
   rw [if_neg (by rw [hw]; simp)]
   have hd' : ∀ t,o.dst = some t → t < a.tmps.size := fun t ht => by rw [hs]; simpa [dstOk,ht] using hd1
   refine ⟨fun _ _ => fen_fn r _,?_⟩
   exact vcOps_pre hE rest h hd2 hi ⟨β,R,hf1.put hd' (x := undefS) (v := undef) (rep_undef _ _) (fun i h => h.elim)⟩ (by rw [put_size]; exact hs) hQ
  show wpListIn _ _ _ _ _ (o :: (rest ++ tl)) _ _
  unfold vcOps vcGuard at h
  split at h
  ·rename_i hg
   exact yes st hf h (by simp [Region.wanted,hg])
  ·rename_i j want hg
   split at h
   ·exact h.elim
   ·rename_i d hj
    obtain ⟨β,R,hfb⟩ := hf
    have hv := hfb.vals d
    split at h
    ·rename_i b hb
     rw [ite_both] at h
     rw [hb] at hv
     have hval := getD_some (rep_bool (srep_v hv)) (by simp [undef])
     have hy : yielded ops a.tmps j = some b := by
      unfold yielded
      rw [show (ops[j]?).bind (·.dst) = some d from hj]
      simp [hval]
     by_cases e : b = want
     ·subst e
      have hst : ({ st with vals := upd st.vals d (.v (.bool b)) } : St) = st := by rw [← hb,upd_self]
      have h1 := h.1 rfl
      rw [hst] at h1
      exact yes st ⟨β,R,hfb⟩ h1 (by simp [Region.wanted,hg,hy])
     ·have e' : b = !want := by cases b <;> cases want <;> simp_all
      have hst : ({ st with vals := upd st.vals d (.v (.bool !want)) } : St) = st := by rw [← e',← hb,upd_self]
      have h2 := h.2 e'
      rw [hst] at h2
      exact no st ⟨β,R,hfb⟩ h2 (by simp [Region.wanted,hg,hy,e'])
    ·rename_i hb
     rw [hb] at hv
     have hval := rep_nilundef (srep_v hv)
     have hy : yielded ops a.tmps j = none := by
      unfold yielded
      rw [show (ops[j]?).bind (·.dst) = some d from hj]
      by_cases hlt : d < a.tmps.size
      ·have : a.tmps[d]? = some undef := by
        rw [Array.getElem?_eq_getElem hlt]
        simp [Array.getD,hlt] at hval
        rw [hval]
       simp [this,undef]
      ·simp [Array.getElem?_eq_none (Nat.le_of_not_lt hlt)]
     exact no st ⟨β,R,hfb⟩ h (by simp [Region.wanted,hg,hy])
    ·exact h.elim
end
end Go.Proofs.YtdmejgfcaacdoaaGreat.Abs
/- The abstract machine,part 23: a cut in whose statement a slice is read and stays its slot's own (keep). -/
namespace Go.Proofs.YtdmejgfcaacdoaaGreat.Abs
set_option linter.unusedSimpArgs false
open Go Go.RowKit
section
variable {E : Env} {st : St} {n : Nat}
theorem acut_keep (hE : EnvOk E) {ops : Array Oper} {K : St → Prop} {α : Type} (pre : List Oper) (o : Oper) (post : List Oper) (x : Operand) (hops : ops.toList = pre ++ o :: post) (hg : o.guard = none) (hop : o.op = .move x) (I : α → Head) (J : α → Prop) (hok : ∀ x,(I x).ok = true)
  (h : vcOps E ops pre (fun st1 => (∀ i,¬ (st1.sv E.T o.type x).refs i) ∧ vcOps E ops post (fun st' => ∃ x,J x ∧ Fits st' (I x)) (st1.put o.dst (st1.sv E.T o.type x) false)) st) (hk : ∀ x,J x → K (I x).st) : ACut E n ops K st .mk := by
 refine ⟨fun hc id r hrd G w a hi hf hs => wpIn_region_list ?_⟩
 rw [hops] at hc ⊢
 simp only [List.all_append,List.all_cons,Bool.and_eq_true] at hc
 obtain ⟨c1,c2,c3⟩ := hc
 refine vcOps_pre hE pre h c1 hi hf hs fun a1 w1 G1 st1 x1 i1 f1 s1 k1 => ?_
 obtain ⟨k0,k1⟩ := k1
 obtain ⟨β,R,f1⟩ := f1
 have hd' : ∀ t,o.dst = some t → t < a1.tmps.size := fun t ht => by rw [s1]; simpa [dstOk,ht] using c2
 have hrun : (execOp a1.eval o).run E.P w1 = .ok (.value (a1.eval x)) w1 := by
  obtain ⟨dst,op,type,pos,after,guard⟩ := o
  simp only at hop
  subst hop
  simp [execOp]
 have f2 := f1.put (d := o.dst) (x := st1.sv E.T o.type x) (v := a1.eval x) hd' (f1.eval E.T o.type x) (fun i hi => absurd hi (k0 i))
 unfold wpListIn
 rw [if_pos (by simp [Region.wanted,hg])]
 refine oper_in (fun c hc => by rw [hop] at hc; cases hc) ?_
 rw [hrun]
 refine vcOps_sound hE post k1 c3 i1 ⟨β,R,f2⟩ (by rw [put_size]; exact s1) ?_
 rintro a3 w3 G3 st3 x3 i3 f3 s3 ⟨y,hj,hfit⟩
 exact ⟨G3,(I y).st,(x1.trans x3).toL,i3,f3.weaken hfit (hok y),s3,rfl,hk y hj⟩
theorem acut_keep_at (k : Nat) (hE : EnvOk E) {ops : Array Oper} {K : St → Prop} {α : Type} {o : Oper} {post : List Oper} {x : Operand} (hops : ops.toList.drop k = o :: post) (hg : o.guard = none) (hop : o.op = .move x) (I : α → Head) (J : α → Prop) (hok : ∀ x,(I x).ok = true)
  (h : vcOps E ops (ops.toList.take k) (fun st1 => (∀ i,¬ (st1.sv E.T o.type x).refs i) ∧ vcOps E ops post (fun st' => ∃ x,J x ∧ Fits st' (I x)) (st1.put o.dst (st1.sv E.T o.type x) false)) st) (hk : ∀ x,J x → K (I x).st) : ACut E n ops K st .mk :=
 acut_keep hE (ops.toList.take k) o post x (by rw [← hops,List.take_append_drop]) hg hop I J hok h hk
end
end Go.Proofs.YtdmejgfcaacdoaaGreat.Abs
/- The abstract machine,part 30: appends to slices of shared memory,in place or not. -/
namespace Go.Proofs.YtdmejgfcaacdoaaGreat.Abs
set_option linter.unusedSimpArgs false
open Go Go.RowKit
section
variable {E : Env} {G : Gh} {w : World} {a : Act} {st : St} {n : Nat}
def vcAppE (E : Env) (o : Oper) (st : St) (S : Eff → Prop) : Prop :=
 match o.dst,o.op with
 | some _,.call c => match c.callee,c.argTypes.toList,c.args.toList with
  | .builtin .append,[t,t2],[s,y2] => match E.T t,st.sv E.T t s,st.sv E.T t2 y2 with
   | some ⟨.slice e,_,_,_⟩,.v (.mslice b 0 len cap),.v (.slice sz2 l2) => match E.T e with
    | some i => ∃ es tail,((cap = 0 ∧ es = [] ∧ tail = []) ∨ st.mem b = some (.cells ((es.map AV.cells).flatten ++ tail))) ∧
     (t2 = t ∧ len = es.length ∧ len ≤ cap ∧ cap ≤ maxLen ∧ tail.length = (cap - len) * i.size ∧ sz2 = i.size ∧ (∀ x ∈ es,x.cells.length = i.size ∧ x.cells.all flat = true) ∧ i.bytes ≠ 0 ∧ 0 < l2.length ∧ (es.length + l2.length) * i.bytes ≤ 140737488355328) ∧
     (es.length + l2.length ≤ cap → S (.call (.mslice b 0 (es.length + l2.length) cap) (upd st.mem b (some (.cells (((es ++ l2).map AV.cells).flatten ++ tail.drop (l2.length * i.size))))))) ∧
     (cap < es.length + l2.length → ∀ b' cap' tail',st.mem b' = none → es.length + l2.length ≤ cap' → cap' ≤ maxLen → tail'.length = (cap' - (es.length + l2.length)) * i.size →
      S (.call (.mslice b' 0 (es.length + l2.length) cap') (upd st.mem b' (some (.cells (((es ++ l2).map AV.cells).flatten ++ tail'))))))
    | none => False
   | _,_,_ => False
  | _,_,_ => False
 | some _,.makeMap t r => match r,E.T t with
  | none,some ⟨.map _ _,_,_,_⟩ => ∀ b,st.mem b = none → S (.call (.map b) (upd st.mem b (some (.map []))))
  | _,_ => False
 | some d,.box t x => match E.H d,st.sv E.T t x with
  | .shared,.v y => known y = true ∧ ∀ b,st.mem b = none → S (.call (.ptr b 0) (upd st.mem b (some (.cells y.cells))))
  | _,_ => False
 | _,_ => False
theorem vcAppE_congr {o : Oper} {st st' : St} {S S' : Eff → Prop} (hsv : ∀ x ∈ o.op.operands,∀ ty,st.sv E.T ty x = st'.sv E.T ty x) (hm : st.mem = st'.mem) (h : vcAppE E o st' S) (hs : ∀ x m,S (.call x m) → S' (.call x m)) : vcAppE E o st S' := by
 unfold vcAppE at h ⊢
 split at h
 ·rename_i d c hdst hop
  split at h
  ·rename_i t t2 s y2 hcb hts hys
   have hmem : ∀ x ∈ c.args.toList,x ∈ o.op.operands := fun x hx => by rw [hop]; simp [Op.operands,Call.operands,hcb]; simpa using hx
   rw [hsv s (hmem s (by rw [hys]; simp)),hsv y2 (hmem y2 (by rw [hys]; simp)),hm]
   split at h
   ·rename_i e sz0 by0 z0 b len cap sz2 l2 hT hv hy
    split at h
    ·rename_i i hTe
     obtain ⟨es,tail,h1,h2,h3,h4⟩ := h
     exact ⟨es,tail,h1,h2,fun q => hs _ _ (h3 q),fun q b' cap' tail' q1 q2 q3 q4 => hs _ _ (h4 q b' cap' tail' q1 q2 q3 q4)⟩
    ·exact h.elim
   ·exact h.elim
  ·exact h.elim
 ·rename_i d t r hdst hop
  split at h
  ·rw [hm]
   exact fun b hb => hs _ _ (h b hb)
  ·exact h.elim
 ·rename_i d t x hdst hop
  have hx : x ∈ o.op.operands := by rw [hop]; simp [Op.operands]
  rw [hsv x hx,hm]
  split at h
  ·rename_i y hH hv
   exact ⟨h.1,fun b hb => hs _ _ (h.2 b hb)⟩
  ·exact h.elim
 ·exact h.elim
def vcAppG (E : Env) (o : Oper) (K : St → Prop) (st : St) : Prop := vcAppE E o st fun e => K (st.eff o.dst e)
theorem vcAppG_sound (hE : EnvOk E) {o : Oper} {K : St → Prop} (h : vcAppG E o K st) (hd : dstOk n o = true) (hi : Inv G w) (hf : FRel G w a st) (hs : a.tmps.size = n) {r : Option Nat}
  {next : Act → World → Prop} {Q : Exit → Act → World → Prop} (hn : ∀ a' w' G' st',Ext G w G' w' → Inv G' w' → FRel G' w' a' st' → a'.tmps.size = n → K st' → next a' w') : o.wpIn (fen r) 0 E.P a w next Q := by
 have hd' : ∀ t,o.dst = some t → t < a.tmps.size := fun t ht => by rw [hs]; simpa [dstOk,ht] using hd
 obtain ⟨β,R,hf⟩ := hf
 unfold vcAppG vcAppE at h
 split at h
 ·rename_i d c hdst hop
  split at h
  ·rename_i t t2 s y2 hcb hts hys
   split at h
   ·rename_i e sz0 by0 z0 b len cap sz2 l2 hT hv hy
    split at h
    ·rename_i i hTe
     obtain ⟨es,tail,hbox,⟨rfl,rfl,hlc,hcm0,htl,rfl,hes,hby,hpos,hbd⟩,hk1,hk2⟩ := h
     obtain ⟨dd,hdd,hu,hr⟩ := run_und hE hT
     cases dd <;> simp only [descOk] at hdd
     subst hdd
     have ok := hE _ _ hTe
     obtain ⟨fi,zv,d',g1,g2,g3,g4,g5,g6,g7,g8⟩ := ok.ex
     have q1 := hf.eval E.T t2 s
     rw [hv] at q1
     have q2 := hf.eval E.T t2 y2
     rw [hy] at q2
     obtain ⟨news,hn1,hn2,hn3,hn4,hn5⟩ := slice_row (srep_v q2)
     have hml : es.length + l2.length ≤ maxLen := by
      have : es.length + l2.length ≤ (es.length + l2.length) * i.bytes := Nat.le_mul_of_pos_right _ (by omega)
      unfold maxLen; omega
     have hcat : ((es ++ l2).map AV.cells).flatten = (es.map AV.cells).flatten ++ (l2.map AV.cells).flatten := by rw [List.map_append,List.flatten_append]
     have fin : ∀ (z : Value) (w' : World) (st' : St),(Builtin.append_ #[t2,t2] o.type #[a.eval s,a.eval y2]).run E.P w = .ok z w' → Ext G w G w' → Inv G w' → FRel G w' (a.put (some d) z) st' → K st' → o.wpIn (fen r) 0 E.P a w next Q := by
      intro z w' st' hrun x1 x2 x3 hk
      have hexec : (execOp a.eval o).run E.P w = .ok (.value z) w' := by
       have e1 : c.argTypes = #[t2,t2] := by apply Array.ext'; simp [hts]
       have e2 : c.args.map a.eval = #[a.eval s,a.eval y2] := by apply Array.ext'; rw [Array.toList_map,hys]; rfl
       unfold execOp
       simp only [hop,resolve,hcb,Sem.run_bind,Sem.run_pure,Result.andThen_ok,invoke]
       rw [e1,e2]
       simp [builtin,hrun]
      refine oper_in (fun c hc => by rw [hop] at hc; cases hc) ?_
      rw [hexec]
      have hnn := hn _ _ _ _ x1 x2 x3 (by rw [put_size]; exact hs) hk
      show next (a.put o.dst _) _
      rw [hdst]
      exact hnn
     by_cases hroom : es.length + l2.length ≤ cap
     ·have hb : st.mem b = some (.cells ((es.map AV.cells).flatten ++ tail)) := by
       rcases hbox with ⟨q,_,_⟩ | q
       ·omega
       ·exact q
      have hval : a.eval s = .slice (some ⟨b,0,none⟩) es.length cap := rep_mslice_pos (srep_v q1) (.inr (by omega))
      obtain ⟨_,_,_,_,cs,eT,hheap,hreps⟩ := hf.mem b _ hb
      obtain ⟨c1,c2,rfl,r1,r2⟩ := Reps.split hreps
      have hrow := row_flatten (fun x hx => (hes x hx).1) r1
      have hc1 : c1.length = es.length * i.size := hrow.1
      have hc2 : c2.length = (cap - es.length) * i.size := by rw [← r2.1,htl]
      have hnl : news.length = l2.length * i.size := hn1.1
      have hle : l2.length * i.size ≤ (cap - es.length) * i.size := Nat.mul_le_mul_right _ (by omega)
      have hfit : es.length * fi.size + news.length ≤ (c1 ++ c2).length := by rw [g2,List.length_append,hc1,hc2,hnl]; omega
      have hrun := run_append_room2 (P := E.P) w t2 o.type e fi hu g1 b es.length cap l2.length (a.eval y2) news (fun w' => hn4 E.P w') (by rw [g2]; exact hn3 E.P w (fun _ => rfl)) hroom hheap hfit (row_plain hn1 hn2)
      rw [g2] at hrun
      have hwr : writeAt (c1 ++ c2) (es.length * i.size) news = c1 ++ (news ++ c2.drop news.length) := by
       unfold writeAt
       rw [List.take_append_of_le_length (by omega),← hc1,List.take_length,List.append_assoc]
       congr 2
       rw [List.drop_append,List.drop_eq_nil_of_le (by omega),List.nil_append]
       congr 1
       omega
      have hm := hf.mset hi hb (o := .cells (writeAt (c1 ++ c2) (es.length * i.size) news).toArray eT (0,0)) (y := .cells (((es ++ l2).map AV.cells).flatten ++ tail.drop (l2.length * i.size)))
       (fun w' hw' hx' => ⟨_,_,hw',by
        rw [hwr,hcat,List.append_assoc]
        exact Reps.append (r1.ext hx') (Reps.append ((flatten_row hn1).ext hx') (by rw [← hnl]; exact (r2.ext hx').drop _))⟩) none (fun t ht => by cases ht)
      obtain ⟨x1,x2,x3⟩ := hm
      have x4 := x3.put (d := some d) (x := .v (.mslice b 0 (es.length + l2.length) cap)) (v := .slice (some ⟨b,0,none⟩) (es.length + l2.length) cap) (fun t ht => by cases ht; exact hd' d hdst) (.mslice _ _ _ _) (fun _ h => h.elim)
      exact fin _ _ _ (by rw [hval]; exact hrun) x1 x2 ⟨β,R,x4⟩ (by have := hk1 hroom; rw [hdst] at this; exact this)
     ·obtain ⟨base,olds,hval,ho1,hold⟩ : ∃ (base : Option Addr) (olds : List Value),a.eval s = .slice base es.length cap ∧ RowRep G.com w i.size es olds ∧ (Builtin.firstCells fi.size es.length (.slice base es.length cap)).run E.P w.drew = .ok olds.toArray w.drew := by
       have nil : ∀ base,es = [] → (Builtin.firstCells fi.size es.length (.slice base es.length cap)).run E.P w.drew = .ok ([] : List Value).toArray w.drew := by
        intro base q
        subst q
        cases base <;> simp [Builtin.firstCells,loadCells,loadCellsFrom]
       by_cases hz : es = []
       ·subst hz
        rcases rep_mslice (srep_v q1) with q | ⟨q0,q3,q⟩
        ·exact ⟨_,[],q,RowRep.nil _,nil _ rfl⟩
        ·exact ⟨none,[],by rw [q,q3]; rfl,RowRep.nil _,nil _ rfl⟩
       ·have hpe : 0 < es.length := List.length_pos_iff.2 hz
        have hb : st.mem b = some (.cells ((es.map AV.cells).flatten ++ tail)) := by
         rcases hbox with ⟨_,q,_⟩ | q
         ·exact absurd q hz
         ·exact q
        have hval : a.eval s = .slice (some ⟨b,0,none⟩) es.length cap := rep_mslice_pos (srep_v q1) (.inl hpe)
        obtain ⟨_,_,_,_,cs,eT,hheap,hreps⟩ := hf.mem b _ hb
        obtain ⟨c1,c2,rfl,r1,r2⟩ := Reps.split hreps
        have hrow := row_flatten (fun x hx => (hes x hx).1) r1
        have hc1 : c1.length = es.length * i.size := hrow.1
        refine ⟨_,c1,hval,hrow,?_⟩
        rw [g2]
        simp only [Builtin.firstCells]
        have := loadCells_run (P := E.P) (w := w.drew) (b := b) (off := 0) (vs := fun j => c1.getD j undef) (es.length * i.size) (fun j hj => by
         rw [Nat.zero_add]
         have hc : w.drew.cell? ⟨b,j,none⟩ = w.cell? ⟨b,j,none⟩ := rfl
         rw [hc,cell_block hheap,List.getElem?_append_left (by omega)]
         simp [List.getElem?_eq_getElem (show j < c1.length by omega)])
        rw [this]
        congr 2
        apply List.ext_getElem
        ·simp [hc1]
        ·intro j h1 h2
         simp [List.getElem?_eq_getElem h2]
      have hrun := run_append_grow2 (P := E.P) w t2 o.type e fi zv hu g1 g4 base es.length cap l2.length (a.eval y2) olds news hold (fun w' => hn4 E.P w') (by rw [g2]; exact hn3 E.P w.drew (fun _ => rfl)) (by omega) hml (by rw [g3]; exact hbd)
      have hge := grownCap_ge w (es.length + l2.length) cap e
      have hcm := grownCap_le_maxLen w (es.length + l2.length) cap e hml
      have hzl : zv.cells.size = i.size := by
       have := rep_cells (g7 G.com w) ok.zc.2.1
       have h1 := this.1
       rw [ok.zc.1,ok.zc.2.2.1] at h1
       simpa using h1.symm
      obtain ⟨f1,f2,f3,f4⟩ := (drew_frame hf hi).fresh (drew_grow hi).2 (d := some d) (fun t ht => by cases ht; exact hd' d hdst)
       (o := .cells (olds ++ news ++ (Builtin.zeroCells zv.cells (grownCap w (es.length + l2.length) cap e - (es.length + l2.length))).toList).toArray e (0,0))
       (x := .mslice w.drew.heap.size 0 (es.length + l2.length) (grownCap w (es.length + l2.length) cap e)) (v := .slice (some ⟨w.heap.size,0,none⟩) (es.length + l2.length) (grownCap w (es.length + l2.length) cap e))
       (y := .cells (((es ++ l2).map AV.cells).flatten ++ List.replicate (Builtin.zeroCells zv.cells (grownCap w (es.length + l2.length) cap e - (es.length + l2.length))).toList.length .top))
       (fun w' hw' hx' => ⟨_,_,hw',by
        rw [hcat]
        have hx2 := (drew_grow hi).1.trans hx'
        exact Reps.append (Reps.append ((flatten_row ho1).ext hx2) ((flatten_row hn1).ext hx2)) (reps_top _)⟩)
       (fun com w' => .mslice _ _ _ _)
      exact fin _ _ _ (by rw [hval]; exact hrun) ((drew_grow hi).1.trans f2) f3 f4 (by have := hk2 (by omega) _ _ (List.replicate (Builtin.zeroCells zv.cells (grownCap w (es.length + l2.length) cap e - (es.length + l2.length))).toList.length .top) f1 hge hcm (by rw [List.length_replicate,Array.length_toList,size_zeroCells,hzl]); rw [hdst] at this; exact this)
    ·exact h.elim
   ·exact h.elim
  ·exact h.elim
 ·rename_i d t r hdst hop
  refine vcOp_sound hE (K := K) ?_ hd hi ⟨β,R,hf⟩ hs hn
  have htk : takes o = none := by unfold takes; rw [hop]
  unfold vcOp
  rw [hop]
  show ev E o _ _ _ _ _
  unfold ev
  rw [hop,htk]
  split at h
  ·rename_i hT
   simp only [hT]
   intro b hb
   exact h b hb
  ·exact h.elim
 ·rename_i d t x hdst hop
  refine vcOp_sound hE (K := K) ?_ hd hi ⟨β,R,hf⟩ hs hn
  have htk : takes o = none := by unfold takes; rw [hop]
  unfold vcOp
  rw [hop]
  show ev E o _ _ _ _ _
  unfold ev
  rw [hop,htk]
  split at h
  ·rename_i y hH hv
   simp only [hdst,hH,hv]
   refine ⟨h.1,fun b hb => ?_⟩
   have := h.2 b hb
   rw [hdst] at this
   exact this
  ·exact h.elim
 ·exact h.elim
end
end Go.Proofs.YtdmejgfcaacdoaaGreat.Abs
/- Statements whose order is open,part 1: what an operation asks hangs on what it looks at alone. -/
namespace Go.Proofs.YtdmejgfcaacdoaaGreat.Abs
set_option linter.unusedSimpArgs false
open Go Go.RowKit
section
variable {E : Env}
theorem vcLoad_congr {t : TypeId} {a : SV} {loc loc' : Nat → Option (List AV)} {mem : Mem} {K : AV → Prop} (h : ∀ k,a.refs k → loc k = loc' k) (hv : vcLoad E t a loc mem K) : vcLoad E t a loc' mem K := by
 unfold vcLoad at hv ⊢
 cases a with
 | loc i off => simp only at hv ⊢; rw [← h i rfl]; exact hv
 | lslice => exact hv
 | v x => cases x <;> exact hv
theorem vcStore_congr {t : TypeId} {a x : SV} {loc loc' : Nat → Option (List AV)} {mem : Mem} {K : Eff → Prop} (h : ∀ k,a.refs k → loc k = loc' k) (hv : vcStore E t a x loc mem K) : vcStore E t a x loc' mem K := by
 unfold vcStore at hv ⊢
 cases a with
 | loc i off =>
  cases x with
  | v x => simp only at hv ⊢; rw [← h i rfl]; exact hv
  | _ => exact hv
 | lslice => exact hv
 | v y => cases y <;> cases x <;> exact hv
theorem zip_congr {ρ ρ' : TypeId → Operand → SV} : ∀ {ts : List TypeId} {xs : List Operand},(∀ x ∈ xs,∀ ty,ρ ty x = ρ' ty x) → ((ts.zip xs).map fun p => ρ p.1 p.2) = (ts.zip xs).map fun p => ρ' p.1 p.2
 | [],_,_ => rfl
 | _ :: _,[],_ => rfl
 | t :: ts,x :: xs,h => by
  simp only [List.zip_cons_cons,List.map_cons]
  rw [h x (by simp) t,zip_congr fun y hy => h y (by simp [hy])]
theorem vcBuiltin_congr {b : Builtin} {ts : List TypeId} {xs xs0 : List SV} {os : List Bool} {loc loc' : Nat → Option (List AV)} {K : Eff → Prop} (h : ∀ k,(∃ x ∈ xs,x.refs k) → loc k = loc' k)
  (hv : vcBuiltin E b ts xs xs0 os loc K) : vcBuiltin E b ts xs xs0 os loc' K := by
 unfold vcBuiltin at hv ⊢
 cases b <;> simp only at hv ⊢ <;> try exact hv
 split at hv
 ·rename_i t _ d s _
  unfold vcCopy at hv ⊢
  split at hv
  ·rename_i i off len cap _ _ _
   rw [← h i ⟨.lslice i off len cap,by simp,rfl⟩]
   exact hv
  ·exact hv.elim
 ·exact hv.elim
theorem ev_congr {o : Oper} {ρ ρ' : TypeId → Operand → SV} {ow ow' : Operand → Bool} {loc loc' : Nat → Option (List AV)} {mem : Mem} {K : Eff → Prop}
  (hρ : ∀ x ∈ o.op.operands,∀ ty,ρ ty x = ρ' ty x) (hw : ∀ x ∈ o.op.operands,ow x = ow' x) (hl : ∀ k,(∃ x ∈ o.op.operands,∃ ty,(ρ ty x).refs k) ∨ o.dst = some k → loc k = loc' k)
  (h : ev E o ρ ow loc mem K) : ev E o ρ' ow' loc' mem K := by
 obtain ⟨dst,op,type,pos,after,guard⟩ := o
 unfold ev at h ⊢
 cases op <;> simp only [Op.operands] at hρ hw hl h ⊢
 case move x => rw [← hρ x (by simp),← hw x (by simp)]; exact h
 case assign x => rw [← hρ x (by simp),← hw x (by simp)]; exact h
 case pick c x y => rw [← hρ c (by simp),← hρ x (by simp),← hρ y (by simp)]; exact h
 case alloc t =>
  cases dst with
  | none => exact h
  | some d =>
   simp only at h ⊢
   split at h
   ·rename_i i h1 h2
    exact ⟨by rw [← hl d (.inr rfl)]; exact h.1,h.2⟩
   ·exact h
   ·exact h.elim
 case box t x =>
  rw [← hρ x (by simp)]
  split at h
  ·rename_i d y hx
   refine ⟨h.1,?_⟩
   have h2 := h.2
   split at h2
   ·exact h2
   ·exact ⟨by rw [← hl d (.inr rfl)]; exact h2.1,h2.2⟩
   ·exact h2
  ·exact h.elim
 case build t parts =>
  have e : ∀ f : Nat × Operand → TypeId,(parts.toList.map fun p => (p.1,ρ (f p) p.2)) = parts.toList.map fun p => (p.1,ρ' (f p) p.2) := fun f =>
   List.map_congr_left fun p hp => by rw [hρ p.2 (by simp; exact ⟨p.1,by simpa using hp⟩)]
  rw [← e]; exact h
 case buildSlice t len parts =>
  have e : ∀ f : Nat × Operand → TypeId,(parts.toList.map fun p => (p.1,ρ (f p) p.2)) = parts.toList.map fun p => (p.1,ρ' (f p) p.2) := fun f =>
   List.map_congr_left fun p hp => by rw [hρ p.2 (by simp; exact ⟨p.1,by simpa using hp⟩)]
  rw [← e]; exact h
 case load t x => rw [← hρ x (by simp)]; exact vcLoad_congr (fun k hk => hl k (.inl ⟨x,by simp,0,hk⟩)) h
 case store t p x => rw [← hρ p (by simp),← hρ x (by simp)]; exact vcStore_congr (fun k hk => hl k (.inl ⟨p,by simp,0,hk⟩)) h
 case nilCheck x => rw [← hρ x (by simp)]; exact h
 case binOp op t x y yt => rw [← hρ x (by simp),← hρ y (by simp)]; exact h
 case unOp op t x => rw [← hρ x (by simp)]; exact h
 case convert s d x => rw [← hρ x (by simp)]; exact h
 case makeFunc f first caps =>
  have e1 : first.toList.map (ρ 0) = first.toList.map (ρ' 0) := List.map_congr_left fun x hx => hρ x (by simp; exact .inl (by simpa using hx)) 0
  have e2 : caps.toList.map (ρ 0) = caps.toList.map (ρ' 0) := List.map_congr_left fun x hx => hρ x (by simp; exact .inr (by simpa using hx)) 0
  rw [← e1,← e2]; exact h
 case makeSlice t n c =>
  cases dst with
  | none => exact h
  | some d =>
   simp only at h ⊢
   rw [← hρ n (by simp),← hρ c (by simp)]
   split at h
   ·exact h
   ·exact ⟨by rw [← hl d (.inr rfl)]; exact h.1,h.2⟩
 case makeMap t r => exact h
 case lookup t x k ok => rw [← hρ x (by simp),← hρ k (by simp)]; exact h
 case mapUpdate t x k y => rw [← hρ x (by simp),← hρ k (by simp),← hρ y (by simp)]; exact h
 case range t x => rw [← hρ x (by simp)]; exact h
 case next x s => rw [← hρ x (by simp)]; exact h
 case slice t x lo hi mx =>
  rw [← hρ x (by simp)]
  have e : ∀ o : Option Operand,(∀ y,o = some y → ∀ ty,ρ ty y = ρ' ty y) → o.map (ρ 0) = o.map (ρ' 0) := fun o h => by
   cases o with
   | none => rfl
   | some y => simp [h y rfl]
  rw [← e lo (fun y hy => hρ y (by simp [hy])),← e hi (fun y hy => hρ y (by simp [hy])),← e mx (fun y hy => hρ y (by simp [hy]))]; exact h
 case fieldAddr s x f => rw [← hρ x (by simp)]; exact h
 case field s x f => rw [← hρ x (by simp)]; exact h
 case indexAddr t x i => rw [← hρ x (by simp),← hρ i (by simp)]; exact h
 case index t x i => rw [← hρ x (by simp),← hρ i (by simp)]; exact h
 case extract x i => rw [← hρ x (by simp)]; exact h
 case call c =>
  split at h
  ·rename_i b hb
   have hmem : ∀ x ∈ c.args.toList,x ∈ c.operands := fun x hx => by simp [Call.operands,hb]; simpa using hx
   refine ⟨h.1,?_⟩
   rw [← zip_congr (ρ := ρ) (ρ' := ρ') fun x hx ty => hρ x (hmem x hx) ty]
   have e1 : c.args.toList.map (ρ 0) = c.args.toList.map (ρ' 0) := List.map_congr_left fun x hx => hρ x (hmem x hx) 0
   have e2 : c.args.toList.map ow = c.args.toList.map ow' := List.map_congr_left fun x hx => hw x (hmem x hx)
   rw [← e1,← e2]
   refine vcBuiltin_congr (loc := loc) (fun k hk => ?_) h.2
   obtain ⟨x,hx,hr⟩ := hk
   obtain ⟨p,hp,rfl⟩ := List.mem_map.1 hx
   exact hl k (.inl ⟨p.2,hmem p.2 (List.of_mem_zip hp).2,p.1,hr⟩)
  ·exact h.elim
theorem ev_unhide {o : Oper} {ρ : TypeId → Operand → SV} {ow : Operand → Bool} {loc : Nat → Option (List AV)} {mem : Mem} {K : Eff → Prop}
  (hd : ∀ d,o.dst = some d → (∀ cells sl,K (.new cells sl) → loc d = none)) (h : ev E o ρ ow (fun _ => none) (fun _ => none) K) : ev E o ρ ow loc mem K := by
 obtain ⟨dst,op,type,pos,after,guard⟩ := o
 unfold ev at h ⊢
 cases op <;> simp only at h ⊢ <;> try exact h
 case alloc t =>
  cases dst with
  | none => exact h
  | some d =>
   simp only at h ⊢
   split at h
   ·exact ⟨hd d rfl _ _ h.2,h.2⟩
   ·exact fun b _ => h b rfl
   ·exact h.elim
 case box t x =>
  split at h
  ·rename_i d y hx
   refine ⟨h.1,?_⟩
   have h2 := h.2
   split at h2
   ·exact h2
   ·exact ⟨hd d rfl _ _ h2.2,h2.2⟩
   ·exact fun b _ => h2 b rfl
  ·exact h.elim
 case makeMap t r =>
  split at h
  ·exact fun b _ => h b rfl
  ·exact h.elim
 case lookup t x k ok =>
  unfold vcLookup at h ⊢
  split at h
  ·exact h.elim
  ·exact h.2.elim
  ·exact h.elim
 case mapUpdate t x k y =>
  unfold vcMapUpdate at h ⊢
  split at h
  ·exact h.elim
  ·exact h.2.elim
  ·exact h.elim
 case range t x =>
  unfold vcRange at h ⊢
  split at h
  ·exact fun b _ => h b rfl
  ·exact h.elim
 case next x s =>
  refine ⟨h.1,?_⟩
  have h2 := h.2
  unfold vcNext at h2 ⊢
  split at h2
  ·exact h2.elim
  ·exact h2.elim
 case call c =>
  split at h
  ·refine ⟨h.1,?_⟩
   have h2 := h.2
   unfold vcBuiltin at h2 ⊢
   split at h2 <;> try exact h2
   split at h2
   ·unfold vcCopy at h2 ⊢
    split at h2
    ·split at h2
     ·rename_i e; cases e
     ·exact h2.elim
    ·exact h2.elim
   ·exact h2.elim
  ·exact h.elim
 case load t x =>
  unfold vcLoad at h ⊢
  split at h <;> first | exact h | exact h.elim
 case store t p x =>
  unfold vcStore at h ⊢
  split at h <;> first | exact h | exact h.elim
 case makeSlice t n c =>
  cases dst with
  | none => exact h
  | some d =>
   simp only at h ⊢
   split at h
   ·unfold vcMakeSlice at h ⊢
    split at h
    ·split at h
     ·exact ⟨h.1,fun b _ => h.2 b rfl⟩
     ·exact h.elim
    ·exact h.elim
   ·refine ⟨?_,h.2⟩
    have h2 := h.2
    unfold vcMakeSlice at h2
    split at h2
    ·split at h2
     ·exact hd d rfl _ _ h2.2
     ·exact h2.elim
    ·exact h2.elim
def isLook : Op → Bool
 | .lookup .. | .load .. => true
 | _ => false
theorem ev_look {o : Oper} {ρ : TypeId → Operand → SV} {ow : Operand → Bool} {loc : Nat → Option (List AV)} {mem mem' : Mem} {K : Eff → Prop}
  (hl : isLook o.op = true) (hm : ∀ b x,mem b = some x → mem' b = some x) (h : ev E o ρ ow (fun _ => none) mem K) : ev E o ρ ow loc mem' K := by
 obtain ⟨dst,op,type,pos,after,guard⟩ := o
 unfold ev at h ⊢
 cases op <;> simp only [isLook,Bool.false_eq_true] at h hl ⊢
 case lookup t x k ok =>
  unfold vcLookup at h ⊢
  split at h
  ·split at h
   ·rename_i hb; rw [hm _ _ hb]; exact h
   ·exact h.elim
  ·refine ⟨h.1,?_⟩
   have h := h.2
   split at h
   ·rename_i hb; rw [hm _ _ hb]; exact h
   ·exact h.elim
  ·exact h.elim
 case load t x =>
  unfold vcLoad at h ⊢
  split at h
  ·exact h
  ·exact h.elim
  ·split at h
   ·rename_i hb; rw [hm _ _ hb]; exact h
   ·exact h.elim
  ·exact h.elim
end
end Go.Proofs.YtdmejgfcaacdoaaGreat.Abs
