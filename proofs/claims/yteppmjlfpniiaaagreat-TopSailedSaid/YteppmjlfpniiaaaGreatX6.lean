/- Lemmas for the statements of this seat (X6): they hold without conditions beyond those that each one states. -/
import Derived.Test.YteppmjlfpniiaaaGreatX5
import Derived.Still
/- The abstract machine,part 22: a slice that is appended to an empty one becomes memory of its own,whose elements can be written (thaw). -/
namespace Go.Proofs.YteppmjlfpniiaaaGreat.Abs
set_option linter.unusedSimpArgs false
open Go Go.RowKit
theorem flatten_row {com : Nat → Nat} {w : World} {sz : Nat} : ∀ {es : List AV} {cs : List Value},RowRep com w sz es cs → Reps com w (es.map AV.cells).flatten cs
 | [],cs,h => by
  have : cs = [] := by have := h.1; simpa using this
  subst this; exact Reps.nil
 | e :: es,cs,h => by
  obtain ⟨h1,h2,h3⟩ := h
  have he := h2 e (by simp)
  have hl : cs.length = es.length * sz + sz := by rw [h1,List.length_cons,Nat.add_mul,Nat.one_mul]
  have ht : RowRep com w sz es (cs.drop sz) := by
   refine ⟨by rw [List.length_drop]; omega,fun x hx => h2 x (by simp [hx]),fun k x j y v hk hj hv => ?_⟩
   refine h3 (k + 1) x j y v (by simpa using hk) hj ?_
   rw [List.getElem?_drop] at hv
   rw [← hv]; congr 1; rw [Nat.add_mul]; omega
  have hh : Reps com w e.cells (cs.take sz) := by
   refine ⟨by rw [List.length_take]; omega,fun i x v hx hv => ?_⟩
   have hi := (List.getElem?_eq_some_iff.1 hx).1
   rw [List.getElem?_take,if_pos (by omega)] at hv
   exact h3 0 e i x v rfl hx (by simpa using hv)
  have := Reps.append hh (flatten_row ht)
  rw [List.take_append_drop] at this
  exact this
theorem reps_top {com : Nat → Nat} {w : World} (cs : List Value) : Reps com w (List.replicate cs.length .top) cs :=
 ⟨by simp,fun i x v hx _ => by rw [List.getElem?_replicate] at hx; split at hx <;> simp at hx; subst hx; exact .top _⟩
section
variable {E : Env} {G : Gh} {w : World} {β : Nat → Nat} {R : Nat → Role} {a : Act} {st : St} {n : Nat}
theorem FRelB.toMem (h : FRelB G w β R a st) {b : Nat} (hR : R b = .free) (hlt : b < w.heap.size) {y : Box} (h1 : G.W0.heap.size ≤ b) (h2 : ¬ G.lock b) (h3 : G.com b = 0) (h4 : BoxRep G.com w b y) :
  st.mem b = none ∧ FRelB G w β (upd R b .mem) a { st with mem := upd st.mem b (some y) } := by
 have hn : st.mem b = none := by
  cases hm : st.mem b with
  | none => rfl
  | some x => have := h.rmem b x hm; rw [hR] at this; cases this
 refine ⟨hn,⟨h.defers,h.vals,fun s' hs' => ?_,fun i l hl => ?_,h.ref,fun k x hk => ?_,fun k x hk => ?_,fun k hk => ?_⟩⟩
 ·obtain ⟨sz,l,e,hv⟩ := h.own s' hs'
  refine ⟨sz,l,e,hv.imp id ?_⟩
  rintro ⟨b',len,cap,cs,el,k1,k2,k3,k4,k5,k6,k7,k8⟩
  have hne : b' ≠ b := by rintro rfl; rw [hR] at k8; cases k8
  exact ⟨b',len,cap,cs,el,k1,k2,k3,k4,k5,k6,k7,by rw [upd_ne _ _ hne]; exact k8⟩
 ·obtain ⟨k1,k2⟩ := h.loc i l hl
  have hne : β i ≠ b := fun e => by rw [e,hR] at k2; cases k2
  exact ⟨k1,by rw [upd_ne _ _ hne]; exact k2⟩
 ·have hk' : upd st.mem b (some y) k = some x := hk
  by_cases e : k = b
  ·subst e
   rw [upd_same] at hk'
   cases hk'
   exact ⟨h1,hlt,h2,h3,h4⟩
  ·rw [upd_ne _ _ e] at hk'
   exact h.mem k x hk'
 ·have hk' : upd st.mem b (some y) k = some x := hk
  by_cases e : k = b
  ·subst e; rw [upd_same]
  ·rw [upd_ne _ _ e] at hk' ⊢
   exact h.rmem k x hk'
 ·by_cases e : k = b
  ·subst e; exact hlt
  ·rw [upd_ne _ _ e] at hk
   exact h.rlt k hk
theorem thaw_sound (hE : EnvOk E) (hi : Inv G w) (hf : FRelB G w β R a st) {d : Tmp} (hd : d < a.tmps.size) {t e : TypeId} {sz0 by0 : Nat} {z0 : List AV} {i : TyI} (hT : E.T t = some ⟨.slice e,sz0,by0,z0⟩) (hTe : E.T e = some i)
  {l2 : List AV} (hby : i.bytes ≠ 0) (hne : 0 < l2.length) (hbd : l2.length * i.bytes ≤ 140737488355328) {v u : Value} (hs : Rep G.com w (.slice i.size []) v) (hx : Rep G.com w (.slice i.size l2) u) (ty : TypeId)
  {s0 : Nat} (hs0 : st.own s0 = true) (hv0 : v = a.tmps.getD s0 undef) (hsv0 : st.vals s0 = .v (.slice i.size [])) :
  ∃ b cap tail z w' G',st.mem b = none ∧ l2.length ≤ cap ∧ cap ≤ maxLen ∧ (Builtin.append_ #[t,t] ty #[v,u]).run E.P w = .ok z w' ∧ Ext G w G' w' ∧ Inv G' w' ∧
   FRel G' w' (a.put (some d) z) (St.eff { st with own := upd st.own s0 false } (some d) (.mput (.mslice b 0 l2.length cap) b (.cells ((l2.map AV.cells).flatten ++ tail)))) := by
 obtain ⟨dd,hdd,hu,hr⟩ := run_und hE hT
 cases dd <;> simp only [descOk] at hdd
 subst hdd
 have ok := hE _ _ hTe
 obtain ⟨fi,zv,d',g1,g2,g3,g4,g5,g6,g7,g8⟩ := ok.ex
 obtain ⟨news,hn1,hn2,hn3,hn4,hn5⟩ := slice_row hx
 obtain ⟨olds,ho1,ho2,ho3,ho4,ho5⟩ := slice_row hs
 have hol : olds = [] := by have := ho1.1; simpa using this
 subst hol
 have hml : l2.length ≤ maxLen := by
  have : l2.length ≤ l2.length * i.bytes := Nat.le_mul_of_pos_right _ (by omega)
  unfold maxLen; omega
 have grow : ∀ (base : Option Addr) (cap : Nat),v = .slice base 0 cap → cap < l2.length → ∃ b cap tail z w' G',st.mem b = none ∧ l2.length ≤ cap ∧ cap ≤ maxLen ∧ (Builtin.append_ #[t,t] ty #[v,u]).run E.P w = .ok z w' ∧ Ext G w G' w' ∧ Inv G' w' ∧
   FRel G' w' (a.put (some d) z) (St.eff { st with own := upd st.own s0 false } (some d) (.mput (.mslice b 0 l2.length cap) b (.cells ((l2.map AV.cells).flatten ++ tail)))) := by
  intro base cap hv hg
  subst hv
  have hrun := run_append_grow2 (P := E.P) w t ty e fi zv hu g1 g4 base 0 cap l2.length u [] news (by rw [g2]; exact ho3 E.P w.drew (fun _ => rfl)) (fun w' => hn4 E.P w') (by rw [g2]; exact hn3 E.P w.drew (fun _ => rfl)) (by omega) (by omega) (by rw [g3]; simpa using hbd)
  have hge := grownCap_ge w (0 + l2.length) cap e
  have hcm := grownCap_le_maxLen w (0 + l2.length) cap e (by omega)
  obtain ⟨f1,f2,f3,f4⟩ := (drew_frame (hf.disown s0) hi).fresh (drew_grow hi).2 (d := some d) (fun t ht => by cases ht; exact hd)
   (o := .cells ([] ++ news ++ (Builtin.zeroCells zv.cells (grownCap w (0 + l2.length) cap e - (0 + l2.length))).toList).toArray e (0,0))
   (x := .mslice w.drew.heap.size 0 l2.length (grownCap w (0 + l2.length) cap e)) (v := .slice (some ⟨w.heap.size,0,none⟩) (0 + l2.length) (grownCap w (0 + l2.length) cap e))
   (y := .cells ((l2.map AV.cells).flatten ++ List.replicate (Builtin.zeroCells zv.cells (grownCap w (0 + l2.length) cap e - (0 + l2.length))).toList.length .top))
   (fun w' hw' hx' => ⟨_,_,hw',by
    rw [List.nil_append]
    exact Reps.append ((flatten_row hn1).ext ((drew_grow hi).1.trans hx')) (reps_top _)⟩)
   (fun com w' => by rw [Nat.zero_add]; exact .mslice _ _ _ _)
  exact ⟨_,_,_,_,_,G,f1,by omega,hcm,hrun,(drew_grow hi).1.trans f2,f3,f4⟩
 have hown := hf.own s0 hs0
 rw [hsv0,← hv0] at hown
 obtain ⟨sz',l',e1,hown⟩ := hown
 cases e1
 rcases hown with rfl | ⟨b,len,cap,cs,el,p1,p2,p3,p4,p5,p6,p7,p8⟩
 ·exact grow none 0 rfl (by omega)
 ·simp only [List.length_nil] at p5
  subst p5
  by_cases hroom : l2.length ≤ cap
  ·subst p1
   have hcap : cap ≤ maxLen := by
    rcases rep_slice hs with ⟨_,h | ⟨a0,cap0,h,hm0⟩⟩ | ⟨b',off,cap',vs,h,_,_,h3,_⟩
    ·cases h
    ·cases h; exact hm0
    ·cases h; exact h3
   have hcs : cs = cs.toList.toArray := by simp
   rw [hcs] at p4
   have hlt := hf.rlt b (by rw [p8]; simp)
   have hmul : l2.length * i.size ≤ cap * i.size := Nat.mul_le_mul_right _ hroom
   have hfit : 0 * i.size + news.length ≤ cs.toList.length := by rw [hn1.1]; simp; omega
   have hrun := run_append_room2 (P := E.P) w t ty e fi hu g1 b 0 cap l2.length u news (fun w' => hn4 E.P w') (by rw [g2]; exact hn3 E.P w (fun _ => rfl)) (by omega) p4 (by rw [g2]; exact hfit) (row_plain hn1 hn2)
   rw [g2] at hrun
   have hwl : (writeAt cs.toList (0 * i.size) news).length = cs.size := by rw [writeAt_length _ _ _ hfit]; simp
   have h0 : G.com b = 0 := by rw [p7]; simp
   obtain ⟨hxx,hii⟩ := write_grow (c := 0) (o := .cells (writeAt cs.toList (0 * i.size) news).toArray el (0,0)) hi p2 hlt p3 (by omega) (fun h => absurd rfl h) (fun k hk => by omega)
   rw [setCom_zero G h0] at hxx hii
   have hfor := (hf.disown s0).forget (s := s0) (by simp [upd_same])
   have hstep := hfor.ext hxx (fun k hk => by
    have hkb : k ≠ b := by rintro rfl; rw [p8] at hk; simp at hk
    exact ⟨heap_setBlock' w _ _ hkb,rfl⟩)
   have hlen2 : cs.toList.length - news.length + news.length = cs.toList.length := by omega
   obtain ⟨q1,q2⟩ := hstep.toMem (b := b) (by simp [p8]) (by simpa [World.setBlock'] using hlt) (y := .cells ((l2.map AV.cells).flatten ++ List.replicate (cs.toList.drop news.length).length .top)) p2 p3 h0
    ⟨_,_,heap_setBlock'_same w _ _ hlt,by
     have e : writeAt cs.toList (0 * i.size) news = news ++ cs.toList.drop news.length := by simp [writeAt]
     have h5 := Reps.append ((flatten_row hn1).ext hxx) (reps_top (com := G.com) (w := w.setBlock' b (.cells (writeAt cs.toList (0 * i.size) news).toArray el (0,0))) (cs.toList.drop news.length))
     rw [← e] at h5
     exact h5⟩
   have q3 := q2.put (d := some d) (x := .v (.mslice b 0 l2.length cap)) (v := .slice (some ⟨b,0,none⟩) (0 + l2.length) cap) (fun t ht => by cases ht; exact hd) (by show Rep _ _ _ _; rw [Nat.zero_add]; exact .mslice _ _ _ _) (fun _ h => h.elim)
   exact ⟨b,cap,_,_,_,G,q1,hroom,hcap,hrun,hxx,hii,β,_,q3⟩
  ·exact grow (some ⟨b,0,none⟩) cap p1 (by omega)
theorem vcOps_pre (hE : EnvOk E) {ops : Array Oper} : ∀ (l : List Oper) {K : St → Prop} {st : St} {r : Option Nat},vcOps E ops l K st → l.all (dstOk n) = true →
  ∀ {G : Gh} {w : World} {a : Act},Inv G w → FRel G w a st → a.tmps.size = n → ∀ {Q : Exit → Act → World → Prop} {tl : List Oper},(∀ a' w' G' st',Ext G w G' w' → Inv G' w' → FRel G' w' a' st' → a'.tmps.size = n → K st' → wpListIn (fen r) 0 E.P ops Q tl a' w') →
  wpListIn (fen r) 0 E.P ops Q (l ++ tl) a w
 | [],K,st,r,h,_,G,w,a,hi,hf,hs,Q,tl,hQ => hQ a w G st (Ext.refl _ _) hi hf hs h
 | o :: rest,K,st,r,h,hd,G,w,a,hi,hf,hs,Q,tl,hQ => by
  simp only [List.all_cons,Bool.and_eq_true] at hd
  obtain ⟨hd1,hd2⟩ := hd
  have yes : ∀ st1,FRel G w a st1 → vcOp E o (vcOps E ops rest K) st1 → Region.wanted o (yielded ops a.tmps) = true → wpListIn (fen r) 0 E.P ops Q (o :: (rest ++ tl)) a w := by
   intro st1 hf1 h hw
   unfold wpListIn
   rw [if_pos hw]
   exact (vcOp_sound hE h hd1 hi hf1 hs fun a' w' G' st' hx hi' hf' hs' hk =>
    vcOps_pre hE rest hk hd2 hi' hf' hs' fun a'' w'' G'' st'' hx' hi'' hf'' hs'' hk' => hQ a'' w'' G'' st'' (hx.trans hx') hi'' hf'' hs'' hk')
  have no : ∀ st1,FRel G w a st1 → vcOps E ops rest K (st1.put o.dst undefS false) → Region.wanted o (yielded ops a.tmps) = false → wpListIn (fen r) 0 E.P ops Q (o :: (rest ++ tl)) a w := by
   intro st1 ⟨β,R,hf1⟩ h hw
   unfold wpListIn
   rw [if_neg (by rw [hw]; simp)]
   have hd' : ∀ t,o.dst = some t → t < a.tmps.size := fun t ht => by rw [hs]; simpa [dstOk,ht] using hd1
   refine ⟨fun _ _ => fen_fn r _,?_⟩
   exact vcOps_pre hE rest h hd2 hi ⟨β,R,hf1.put hd' (x := undefS) (v := undef) (rep_undef _ _) (fun i h => h.elim)⟩ (by rw [put_size]; exact hs) hQ
  show wpListIn _ _ _ _ _ (o :: (rest ++ tl)) _ _
  unfold vcOps vcGuard at h
  split at h
  ·rename_i hg
   exact yes st hf h (by simp [Region.wanted,hg])
  ·rename_i j want hg
   split at h
   ·exact h.elim
   ·rename_i d hj
    obtain ⟨β,R,hfb⟩ := hf
    have hv := hfb.vals d
    split at h
    ·rename_i b hb
     rw [ite_both] at h
     rw [hb] at hv
     have hval := getD_some (rep_bool (srep_v hv)) (by simp [undef])
     have hy : yielded ops a.tmps j = some b := by
      unfold yielded
      rw [show (ops[j]?).bind (·.dst) = some d from hj]
      simp [hval]
     by_cases e : b = want
     ·subst e
      have hst : ({ st with vals := upd st.vals d (.v (.bool b)) } : St) = st := by rw [← hb,upd_self]
      have h1 := h.1 rfl
      rw [hst] at h1
      exact yes st ⟨β,R,hfb⟩ h1 (by simp [Region.wanted,hg,hy])
     ·have e' : b = !want := by cases b <;> cases want <;> simp_all
      have hst : ({ st with vals := upd st.vals d (.v (.bool !want)) } : St) = st := by rw [← e',← hb,upd_self]
      have h2 := h.2 e'
      rw [hst] at h2
      exact no st ⟨β,R,hfb⟩ h2 (by simp [Region.wanted,hg,hy,e'])
    ·rename_i hb
     rw [hb] at hv
     have hval := rep_nilundef (srep_v hv)
     have hy : yielded ops a.tmps j = none := by
      unfold yielded
      rw [show (ops[j]?).bind (·.dst) = some d from hj]
      by_cases hlt : d < a.tmps.size
      ·have : a.tmps[d]? = some undef := by
        rw [Array.getElem?_eq_getElem hlt]
        simp [Array.getD,hlt] at hval
        rw [hval]
       simp [this,undef]
      ·simp [Array.getElem?_eq_none (Nat.le_of_not_lt hlt)]
     exact no st ⟨β,R,hfb⟩ h (by simp [Region.wanted,hg,hy])
    ·exact h.elim
def vcThaw (E : Env) (o : Oper) (K : St → Prop) (st : St) : Prop :=
 match o.dst,o.op with
 | some d,.call c => match c.callee,c.argTypes.toList,c.args.toList with
  | .builtin .append,[t,t2],[.tmp s0,y2] => match E.T t,st.vals s0,st.sv E.T t2 y2 with
   | some ⟨.slice e,_,_,_⟩,.v (.slice sz []),.v (.slice sz2 l2) => match E.T e with
    | some i => (st.own s0 = true ∧ t2 = t ∧ i.size = sz ∧ sz2 = sz ∧ i.bytes ≠ 0 ∧ 0 < l2.length ∧ l2.length * i.bytes ≤ 140737488355328) ∧
     ∀ b cap tail,st.mem b = none → l2.length ≤ cap → cap ≤ maxLen → K (St.eff { st with own := upd st.own s0 false } (some d) (.mput (.mslice b 0 l2.length cap) b (.cells ((l2.map AV.cells).flatten ++ tail))))
    | none => False
   | _,_,_ => False
  | _,_,_ => False
 | _,_ => False
theorem vcThaw_sound (hE : EnvOk E) {o : Oper} {K : St → Prop} (h : vcThaw E o K st) (hd : dstOk n o = true) {G : Gh} {w : World} {a : Act} (hi : Inv G w) (hf : FRel G w a st) (hs : a.tmps.size = n) {r : Option Nat}
  {next : Act → World → Prop} {Q : Exit → Act → World → Prop} (hn : ∀ a' w' G' st',Ext G w G' w' → Inv G' w' → FRel G' w' a' st' → a'.tmps.size = n → K st' → next a' w') : o.wpIn (fen r) 0 E.P a w next Q := by
 have hd' : ∀ t,o.dst = some t → t < a.tmps.size := fun t ht => by rw [hs]; simpa [dstOk,ht] using hd
 obtain ⟨β,R,hf⟩ := hf
 unfold vcThaw at h
 split at h
 ·rename_i d c hdst hop
  split at h
  ·rename_i t t2 s0 y2 hcb hts hys
   split at h
   ·rename_i e sz0 by0 z0 sz sz2 l2 hT hv hy
    split at h
    ·rename_i i hTe
     obtain ⟨⟨h1,rfl,rfl,rfl,h4,h5,h6⟩,hk⟩ := h
     have q1 := hf.vals s0
     rw [hv] at q1
     have q2 := hf.eval E.T t2 y2
     rw [hy] at q2
     obtain ⟨b,cap,tail,z,w',G',r1,r2,r3,r4,r5,r6,r7⟩ := thaw_sound hE hi hf (hd' d hdst) hT hTe h4 h5 h6 (srep_v q1) (srep_v q2) o.type h1 rfl hv
     have hrun : (execOp a.eval o).run E.P w = .ok (.value z) w' := by
      have e1 : c.argTypes = #[t2,t2] := by apply Array.ext'; simp [hts]
      have e2 : c.args.map a.eval = #[a.tmps.getD s0 undef,a.eval y2] := by apply Array.ext'; rw [Array.toList_map,hys]; rfl
      unfold execOp
      simp only [hop,resolve,hcb,Sem.run_bind,Sem.run_pure,Result.andThen_ok,invoke]
      rw [e1,e2]
      have r4' := r4
      simp only [Array.getD_eq_getD_getElem?] at r4'
      simp [builtin,r4']
     have hnn := hn (a.put (some d) z) w' G' _ r5 r6 r7 (by rw [put_size]; exact hs) (hk b cap tail r1 r2 r3)
     refine oper_in (fun c hc => by rw [hop] at hc; cases hc) ?_
     rw [hrun]
     show next (a.put o.dst z) w'
     rw [hdst]
     exact hnn
    ·exact h.elim
   ·exact h.elim
  ·exact h.elim
 ·exact h.elim
end
end Go.Proofs.YteppmjlfpniiaaaGreat.Abs
/- The abstract machine,part 23: a cut in whose statement a slice is read and stays its slot's own (keep). -/
namespace Go.Proofs.YteppmjlfpniiaaaGreat.Abs
set_option linter.unusedSimpArgs false
open Go Go.RowKit
section
variable {E : Env} {st : St} {n : Nat}
theorem acut_keep (hE : EnvOk E) {ops : Array Oper} {K : St → Prop} {α : Type} (pre : List Oper) (o : Oper) (post : List Oper) (x : Operand) (hops : ops.toList = pre ++ o :: post) (hg : o.guard = none) (hop : o.op = .move x) (I : α → Head) (J : α → Prop) (hok : ∀ x,(I x).ok = true)
  (h : vcOps E ops pre (fun st1 => (∀ i,¬ (st1.sv E.T o.type x).refs i) ∧ vcOps E ops post (fun st' => ∃ x,J x ∧ Fits st' (I x)) (st1.put o.dst (st1.sv E.T o.type x) false)) st) (hk : ∀ x,J x → K (I x).st) : ACut E n ops K st .mk := by
 refine ⟨fun hc id r hrd G w a hi hf hs => wpIn_region_list ?_⟩
 rw [hops] at hc ⊢
 simp only [List.all_append,List.all_cons,Bool.and_eq_true] at hc
 obtain ⟨c1,c2,c3⟩ := hc
 refine vcOps_pre hE pre h c1 hi hf hs fun a1 w1 G1 st1 x1 i1 f1 s1 k1 => ?_
 obtain ⟨k0,k1⟩ := k1
 obtain ⟨β,R,f1⟩ := f1
 have hd' : ∀ t,o.dst = some t → t < a1.tmps.size := fun t ht => by rw [s1]; simpa [dstOk,ht] using c2
 have hrun : (execOp a1.eval o).run E.P w1 = .ok (.value (a1.eval x)) w1 := by
  obtain ⟨dst,op,type,pos,after,guard⟩ := o
  simp only at hop
  subst hop
  simp [execOp]
 have f2 := f1.put (d := o.dst) (x := st1.sv E.T o.type x) (v := a1.eval x) hd' (f1.eval E.T o.type x) (fun i hi => absurd hi (k0 i))
 unfold wpListIn
 rw [if_pos (by simp [Region.wanted,hg])]
 refine oper_in (fun c hc => by rw [hop] at hc; cases hc) ?_
 rw [hrun]
 refine vcOps_sound hE post k1 c3 i1 ⟨β,R,f2⟩ (by rw [put_size]; exact s1) ?_
 rintro a3 w3 G3 st3 x3 i3 f3 s3 ⟨y,hj,hfit⟩
 exact ⟨G3,(I y).st,(x1.trans x3).toL,i3,f3.weaken hfit (hok y),s3,rfl,hk y hj⟩
theorem acut_keep_at (k : Nat) (hE : EnvOk E) {ops : Array Oper} {K : St → Prop} {α : Type} {o : Oper} {post : List Oper} {x : Operand} (hops : ops.toList.drop k = o :: post) (hg : o.guard = none) (hop : o.op = .move x) (I : α → Head) (J : α → Prop) (hok : ∀ x,(I x).ok = true)
  (h : vcOps E ops (ops.toList.take k) (fun st1 => (∀ i,¬ (st1.sv E.T o.type x).refs i) ∧ vcOps E ops post (fun st' => ∃ x,J x ∧ Fits st' (I x)) (st1.put o.dst (st1.sv E.T o.type x) false)) st) (hk : ∀ x,J x → K (I x).st) : ACut E n ops K st .mk :=
 acut_keep hE (ops.toList.take k) o post x (by rw [← hops,List.take_append_drop]) hg hop I J hok h hk
end
end Go.Proofs.YteppmjlfpniiaaaGreat.Abs
/- The abstract machine,part 24: pointed things that never change from here on. -/
namespace Go.Proofs.YteppmjlfpniiaaaGreat.Abs
set_option linter.unusedSimpArgs false
open Go Go.RowKit
def meltPA (b : Nat) (es : List AV) : AV → AV
 | .ptr b' 0 => if b' = b then .eptr es else .ptr b' 0
 | x => x
def meltPV (b : Nat) (es : List AV) : SV → SV
 | .v x => .v (meltPA b es x)
 | y => y
def St.meltP (st : St) (b : Nat) (es : List AV) : St where
 vals := fun s => meltPV b es (st.vals s)
 own := st.own
 loc := fun i => (st.loc i).map (List.map (meltPA b es))
 mem := upd st.mem b none
theorem rep_meltP {com : Nat → Nat} {w : World} {b : Nat} {es : List AV} {cs : List Value} (hr : Reps com w es cs) (hc : es.length ≤ com b)
  (hw : ∀ i,i < es.length → w.cell? ⟨b,i,none⟩ = cs[i]?) {x : AV} {v : Value} (h : Rep com w x v) : Rep com w (meltPA b es x) v := by
 unfold meltPA
 split
 ·rename_i b'
  split
  ·rename_i hcond
   subst hcond
   cases h
   refine .eptr es b' 0 (fun i => cs[i]!) (by omega) (fun i hi => ?_) (fun j x hx => ?_)
   ·rw [Nat.zero_add,hw i hi]
    have : i < cs.length := by rw [← hr.1]; exact hi
    simp [this]
   ·have hj : j < es.length := by
     rw [List.getElem?_eq_some_iff] at hx
     exact hx.1
    have : j < cs.length := by rw [← hr.1]; exact hj
    exact hr.2 j x _ hx (by simp [this])
  ·exact h
 ·exact h
section
variable {E : Env} {G : Gh} {w : World} {β : Nat → Nat} {R : Nat → Role} {a : Act} {st : St} {n : Nat}
theorem FRelB.meltP (h : FRelB G w β R a st) (hi : Inv G w) {b : Nat} {es : List AV} (hb : st.mem b = some (.cells es)) :
  Ext G w (G.setCom b (es.length)) w ∧ Inv (G.setCom b (es.length)) w ∧ FRelB (G.setCom b (es.length)) w β R a (st.meltP b es) := by
 obtain ⟨m1,m2,m3,m4,cs,e,m5,m6⟩ := h.mem b _ hb
 have hR := h.rmem b _ hb
 have hx : Ext G w (G.setCom b (es.length)) w := by
  refine ⟨rfl,rfl,Nat.le_refl _,fun k => ?_,fun _ _ _ => rfl,fun k hk => ⟨rfl,?_⟩⟩
  ·by_cases e : k = b
   ·subst e; rw [m4]; exact Nat.zero_le _
   ·simp [Gh.setCom,upd_ne _ _ e]
  ·have : k ≠ b := by rintro rfl; exact m3 hk
   simp [Gh.setCom,upd_ne _ _ this]
 have hrow : Reps (G.setCom b (es.length)).com w es cs := m6.ext hx
 have hlen := hrow.1
 have hcell : ∀ i,i < es.length → w.cell? ⟨b,i,none⟩ = cs[i]? := fun i _ => by
  rw [cell_block m5]
 have hrep : ∀ {x v},Rep G.com w x v → Rep (G.setCom b (es.length)).com w (meltPA b es x) v := fun hr =>
  rep_meltP hrow (by simp [Gh.setCom,upd_same]) hcell (hr.ext hx)
 refine ⟨hx,⟨hi.below,fun k hk => ?_,hi.lock⟩,?_⟩
 ·by_cases e : k = b
  ·subst e
   refine ⟨_,_,_,m5,?_⟩
   simp only [Gh.setCom,upd_same,List.size_toArray]; omega
  ·have hk' : G.com k ≠ 0 := by simpa [Gh.setCom,upd_ne _ _ e] using hk
   have := hi.com k hk'
   simpa [Gh.setCom,upd_ne _ _ e] using this
 ·have hne : ∀ k,R k ≠ .mem → k ≠ b := fun k hk e => hk (by rw [e]; exact hR)
  have hf := h
  refine ⟨h.defers.step hx,fun s => ?_,fun s hs' => ?_,fun i l hl => ?_,fun s i hr => ?_,fun k y hk => ?_,fun k y hk => ?_,h.rlt⟩
  ·have := h.vals s
   show SRep _ _ _ (meltPV b es (st.vals s)) _
   revert this
   generalize st.vals s = x
   cases x with
   | v x => exact fun h => hrep h
   | _ => exact fun h => h
  ·obtain ⟨sz',l,e1,hv⟩ := h.own s hs'
   show Own _ _ _ _ _ (meltPV b es (st.vals s))
   rw [e1]
   refine ⟨sz',l,rfl,hv.imp id ?_⟩
   rintro ⟨k,len,cap,cs',el,h1,h2,h3,h4,h5,h6,h7,h8⟩
   have hkb : k ≠ b := hne k (by rw [h8]; simp)
   exact ⟨k,len,cap,cs',el,h1,h2,h3,h4,h5,h6,by simp [Gh.setCom,upd_ne _ _ hkb,h7],h8⟩
  ·have hl' : (st.loc i).map (List.map (meltPA b es)) = some l := hl
   cases hl0 : st.loc i with
   | none => rw [hl0] at hl'; cases hl'
   | some l0 =>
    rw [hl0] at hl'
    simp only [Option.map_some,Option.some.injEq] at hl'
    subst hl'
    obtain ⟨⟨k1,k2,k3,cs',e',k4,k5⟩,k6⟩ := h.loc i l0 hl0
    have hkb : β i ≠ b := hne _ (by rw [k6]; simp)
    refine ⟨⟨k1,k2,by simp [Gh.setCom,upd_ne _ _ hkb,k3],cs',e',k4,by simp [k5.1],fun j x v hx' hv => ?_⟩,k6⟩
    rw [List.getElem?_map] at hx'
    cases hj : l0[j]? with
    | none => rw [hj] at hx'; cases hx'
    | some y =>
     rw [hj] at hx'
     simp only [Option.map_some,Option.some.injEq] at hx'
     subst hx'
     exact hrep (k5.2 j y v hj hv)
  ·have hr' : (st.vals s).refs i := by
    have : (meltPV b es (st.vals s)).refs i := hr
    revert this
    generalize st.vals s = x
    cases x <;> exact id
   have := h.ref s i hr'
   show (st.loc i).map _ ≠ none
   cases hl0 : st.loc i with
   | none => exact absurd hl0 this
   | some l0 => simp
  ·have hk' : upd st.mem b none k = some y := hk
   by_cases e : k = b
   ·subst e; rw [upd_same] at hk'; cases hk'
   ·rw [upd_ne _ _ e] at hk'
    obtain ⟨k1,k2,k3,k4,k5⟩ := h.mem k y hk'
    exact ⟨k1,k2,k3,by simp [Gh.setCom,upd_ne _ _ e,k4],k5.ext hx rfl⟩
  ·have hk' : upd st.mem b none k = some y := hk
   by_cases e : k = b
   ·subst e; rw [upd_same] at hk'; cases hk'
   ·rw [upd_ne _ _ e] at hk'
    exact h.rmem k y hk'
theorem acut_meltP (hE : EnvOk E) {ops : Array Oper} {K : St → Prop} {α : Type} (I : α → Head) (J : α → Prop) (b : α → Nat) (es : α → List AV) (hok : ∀ x,(I x).ok = true)
  (h : vcOps E ops ops.toList (fun st' => ∃ x,J x ∧ (∃ c,st'.mem = c ∧ c (b x) = some (.cells (es x))) ∧ Fits (st'.meltP (b x) (es x)) (I x)) st)
  (hk : ∀ x,J x → K (I x).st) : ACut E n ops K st .mk := by
 refine ⟨fun hc id r hrd G w a hi hf hs => wpIn_region_list (vcOps_sound hE ops.toList h hc hi hf hs ?_)⟩
 rintro a' w' G' st' hx hi' ⟨β,R,hf'⟩ hs' ⟨x,hj,⟨c,rfl,hc1⟩,hfit⟩
 obtain ⟨x1,i1,f1⟩ := hf'.meltP hi' hc1
 exact ⟨_,(I x).st,(hx.trans x1).toL,i1,FRel.weaken ⟨β,R,f1⟩ hfit (hok x),hs',rfl,hk x hj⟩
end
end Go.Proofs.YteppmjlfpniiaaaGreat.Abs
/- The abstract machine,part 25: variables of one's own that never change from a loop over a function on. -/
namespace Go.Proofs.YteppmjlfpniiaaaGreat.Abs
set_option linter.unusedSimpArgs false
open Go Go.RowKit
section
variable {E : Env} {st : St} {n : Nat}
theorem ARange.freeze (i : Nat) {g : Operand} {ps : Array Tmp} {assign body : Code} {K : Exit → St → Prop} (h : ARange E n g ps assign body K (st.freeze i) .mk) : ARange E n g ps assign body K st .mk := by
 refine ⟨fun r hr G w a hi ⟨β,R,hf⟩ hs => ?_⟩
 obtain ⟨G',R',x,i',f'⟩ := freeze_sound hi hf i
 refine wpIn_mono (h.does r hr G' w a i' ⟨β,R',f'⟩ hs) fun e a' w' q => ?_
 obtain ⟨G2,st2,x2,q⟩ := q
 exact ⟨G2,st2,x.toL.trans x2,q⟩
end
end Go.Proofs.YteppmjlfpniiaaaGreat.Abs
/- The abstract machine,part 26: slices that are built as shared memory,and appends to slices that are full. -/
namespace Go.Proofs.YteppmjlfpniiaaaGreat.Abs
set_option linter.unusedSimpArgs false
open Go Go.RowKit
section
variable {E : Env} {G : Gh} {w : World} {β : Nat → Nat} {R : Nat → Role} {a : Act} {st : St} {n : Nat}
def vcBuildM (E : Env) (o : Oper) (K : St → Prop) (st : St) : Prop :=
 match o.dst,o.op with
 | some d,.buildSlice t len parts => vcBuildSlice E t len (parts.toList.map fun p => (p.1,st.sv E.T (match E.T t with | some ⟨.slice e,_,_,_⟩ => e | _ => 0) p.2)) fun r => match r with
   | .slice _ l => ∀ b,st.mem b = none → K (St.eff st (some d) (.mput (.mslice b 0 len len) b (.cells (l.map AV.cells).flatten)))
   | _ => False
 | _,_ => False
theorem vcBuildM_sound (hE : EnvOk E) {o : Oper} {K : St → Prop} (h : vcBuildM E o K st) (hd : dstOk n o = true) (hi : Inv G w) (hf : FRel G w a st) (hs : a.tmps.size = n) {r : Option Nat}
  {next : Act → World → Prop} {Q : Exit → Act → World → Prop} (hn : ∀ a' w' G' st',Ext G w G' w' → Inv G' w' → FRel G' w' a' st' → a'.tmps.size = n → K st' → next a' w') : o.wpIn (fen r) 0 E.P a w next Q := by
 have hd' : ∀ t,o.dst = some t → t < a.tmps.size := fun t ht => by rw [hs]; simpa [dstOk,ht] using hd
 obtain ⟨β,R,hf⟩ := hf
 unfold vcBuildM at h
 split at h
 ·rename_i d t len parts hdst hop
  obtain ⟨sz,l,cs,e,hk,hrow,hfl,hlen,hlm,hr⟩ := vcBuildSlice_sound hE h (vals := parts.map fun (i,x) => (i,a.eval x)) (by simp) (parts_srep hf E.T _ parts)
  simp only at hk
  obtain ⟨h1,h2,h3,h4⟩ := hf.fresh hi (d := some d) (fun t ht => hd' t (by rw [hdst,← ht])) (o := .cells cs.toArray e (0,0)) (x := .mslice w.heap.size 0 len len) (v := .slice (some ⟨w.heap.size,0,none⟩) len len) (y := .cells (l.map AV.cells).flatten)
   (fun w' hw hx => ⟨_,_,hw,(flatten_row hrow).ext hx⟩) (fun _ _ => .mslice _ _ _ _)
  have hrun : (execOp a.eval o).run E.P w = .ok (.value (.slice (some ⟨w.heap.size,0,none⟩) len len)) (w.alloc (.cells cs.toArray e (0,0))) := by
   simp [execOp,hop,hr]
  refine oper_in (fun c hc => by rw [hop] at hc; cases hc) ?_
  rw [hrun]
  have hnn := hn _ _ G _ h2 h3 h4 (by rw [put_size]; exact hs) (hk _ h1)
  show next (a.put o.dst _) _
  rw [hdst]
  exact hnn
 ·exact h.elim
def vcAppM (E : Env) (o : Oper) (K : St → Prop) (st : St) : Prop :=
 match o.dst,o.op with
 | some d,.call c => match c.callee,c.argTypes.toList,c.args.toList with
  | .builtin .append,[t,t2],[s,y2] => match E.T t,st.sv E.T t s,st.sv E.T t2 y2 with
   | some ⟨.slice e,_,_,_⟩,.v (.mslice b 0 len cap),.v (.slice sz2 l2) => match E.T e with
    | some i => ∃ es,(st.mem b = some (.cells (es.map AV.cells).flatten) ∧ t2 = t ∧ len = es.length ∧ cap = es.length ∧ sz2 = i.size ∧ (∀ x ∈ es,x.cells.length = i.size ∧ x.cells.all flat = true) ∧ i.bytes ≠ 0 ∧ 0 < l2.length ∧ (es.length + l2.length) * i.bytes ≤ 140737488355328) ∧
     K (st.put (some d) (.v (.slice i.size (es ++ l2))) true)
    | none => False
   | _,_,_ => False
  | _,_,_ => False
 | _,_ => False
theorem vcAppM_sound (hE : EnvOk E) {o : Oper} {K : St → Prop} (h : vcAppM E o K st) (hd : dstOk n o = true) (hi : Inv G w) (hf : FRel G w a st) (hs : a.tmps.size = n) {r : Option Nat}
  {next : Act → World → Prop} {Q : Exit → Act → World → Prop} (hn : ∀ a' w' G' st',Ext G w G' w' → Inv G' w' → FRel G' w' a' st' → a'.tmps.size = n → K st' → next a' w') : o.wpIn (fen r) 0 E.P a w next Q := by
 have hd' : ∀ t,o.dst = some t → t < a.tmps.size := fun t ht => by rw [hs]; simpa [dstOk,ht] using hd
 obtain ⟨β,R,hf⟩ := hf
 unfold vcAppM at h
 split at h
 ·rename_i d c hdst hop
  split at h
  ·rename_i t t2 s y2 hcb hts hys
   split at h
   ·rename_i e sz0 by0 z0 b len cap sz2 l2 hT hv hy
    split at h
    ·rename_i i hTe
     obtain ⟨es,⟨hb,rfl,rfl,rfl,rfl,hes,hby,hpos,hbd⟩,hk⟩ := h
     obtain ⟨dd,hdd,hu,hr⟩ := run_und hE hT
     cases dd <;> simp only [descOk] at hdd
     subst hdd
     have ok := hE _ _ hTe
     obtain ⟨fi,zv,d',g1,g2,g3,g4,g5,g6,g7,g8⟩ := ok.ex
     have q1 := hf.eval E.T t2 s
     rw [hv] at q1
     obtain ⟨base,hval⟩ : ∃ base : Option Addr,a.eval s = .slice base es.length es.length ∧ (base = some ⟨b,0,none⟩ ∨ es.length = 0) := by
      rcases rep_mslice (srep_v q1) with q | ⟨q0,_,q⟩
      ·exact ⟨_,q,.inl rfl⟩
      ·exact ⟨none,by rw [q,q0],.inr q0⟩
     obtain ⟨hval,hbase⟩ := hval
     have q2 := hf.eval E.T t2 y2
     rw [hy] at q2
     obtain ⟨news,hn1,hn2,hn3,hn4,hn5⟩ := slice_row (srep_v q2)
     obtain ⟨_,_,_,_,olds,eT,hheap,hreps⟩ := hf.mem b _ hb
     have ho1 : RowRep G.com w i.size es olds := row_flatten (fun x hx => (hes x hx).1) hreps
     have hrow := ho1.append hn1
     have hflat : ∀ x ∈ es ++ l2,x.cells.all flat = true := fun x hx => (List.mem_append.1 hx).elim (fun h => (hes x h).2) (hn2 x)
     have hlen : (es ++ l2).length = es.length + l2.length := by simp
     have hml : es.length + l2.length ≤ maxLen := by
      have : es.length + l2.length ≤ (es.length + l2.length) * i.bytes := Nat.le_mul_of_pos_right _ (by omega)
      unfold maxLen; omega
     have hold : (Builtin.firstCells fi.size es.length (.slice base es.length es.length)).run E.P w.drew = .ok olds.toArray w.drew := by
      rw [g2]
      have hol : olds.length = es.length * i.size := ho1.1
      rcases hbase with rfl | hz
      rotate_left 1
      ·have hz2 : olds = [] := List.eq_nil_of_length_eq_zero (by rw [hol,hz,Nat.zero_mul])
       rw [hz,hz2]
       cases base <;> simp [Builtin.firstCells,loadCells,loadCellsFrom]
      simp only [Builtin.firstCells]
      have := loadCells_run (P := E.P) (w := w.drew) (b := b) (off := 0) (vs := fun j => olds.getD j undef) (es.length * i.size) (fun j hj => by
       rw [Nat.zero_add]
       have hc : w.drew.cell? ⟨b,j,none⟩ = w.cell? ⟨b,j,none⟩ := rfl
       rw [hc,cell_block hheap]
       simp [List.getElem?_eq_getElem (show j < olds.length by omega)])
      rw [this]
      congr 2
      apply List.ext_getElem
      ·simp [hol]
      ·intro j h1 h2
       simp [List.getElem?_eq_getElem h2]
     have hrun := run_append_grow2 (P := E.P) w t2 o.type e fi zv hu g1 g4 base es.length es.length l2.length (a.eval y2) olds news hold (fun w' => hn4 E.P w') (by rw [g2]; exact hn3 E.P w.drew (fun _ => rfl)) (by omega) hml (by rw [g3]; exact hbd)
     have hge := grownCap_ge w (es.length + l2.length) es.length e
     have hcm := grownCap_le_maxLen w (es.length + l2.length) es.length e hml
     have hzl : zv.cells.size = i.size := by
      have := rep_cells (g7 G.com w) ok.zc.2.1
      have h1 := this.1
      rw [ok.zc.1,ok.zc.2.2.1] at h1
      simpa using h1.symm
     have hcl : ((olds ++ news ++ (Builtin.zeroCells zv.cells (grownCap w (es.length + l2.length) es.length e - (es.length + l2.length))).toList)).length = grownCap w (es.length + l2.length) es.length e * i.size := by
      simp only [List.length_append,ho1.1,hn1.1,Array.length_toList,size_zeroCells,hzl]
      rw [← Nat.add_mul,← Nat.add_mul]; congr 1; omega
     obtain ⟨x1,x2,x3⟩ := (drew_frame hf hi).putRow (drew_grow hi).2 (hd' d hdst) (sz := i.size) (l := es ++ l2) (cs := olds ++ news ++ (Builtin.zeroCells zv.cells (grownCap w (es.length + l2.length) es.length e - (es.length + l2.length))).toList) e
      (cap := grownCap w (es.length + l2.length) es.length e) (by
       have ht : (olds ++ news ++ (Builtin.zeroCells zv.cells (grownCap w (es.length + l2.length) es.length e - (es.length + l2.length))).toList).take ((es ++ l2).length * i.size) = olds ++ news := by
        rw [← hrow.1]; exact List.take_left
       rw [ht]; exact hrow.mono fun x v h => h.ext (drew_grow hi).1) hflat (by rw [hlen]; exact hge) hcm (by rw [hcl]; exact Nat.le_refl _)
     rw [hlen] at x1 x2 x3
     have hexec : (execOp a.eval o).run E.P w = .ok (.value (.slice (some ⟨w.heap.size,0,none⟩) (es.length + l2.length) (grownCap w (es.length + l2.length) es.length e))) (w.drew.alloc (.cells (olds ++ news ++ (Builtin.zeroCells zv.cells (grownCap w (es.length + l2.length) es.length e - (es.length + l2.length))).toList).toArray e)) := by
      have e1 : c.argTypes = #[t2,t2] := by apply Array.ext'; simp [hts]
      have e2 : c.args.map a.eval = #[.slice base es.length es.length,a.eval y2] := by apply Array.ext'; rw [Array.toList_map,hys]; simp [hval]
      unfold execOp
      simp only [hop,resolve,hcb,Sem.run_bind,Sem.run_pure,Result.andThen_ok,invoke]
      rw [e1,e2]
      simp [builtin,hrun]
     refine oper_in (fun c hc => by rw [hop] at hc; cases hc) ?_
     rw [hexec]
     have hnn := hn _ _ _ _ ((drew_grow hi).1.trans x1) x2 x3 (by rw [put_size]; exact hs) hk
     show next (a.put o.dst _) _
     rw [hdst]
     exact hnn
    ·exact h.elim
   ·exact h.elim
  ·exact h.elim
 ·exact h.elim
theorem acut_at (hE : EnvOk E) {V : Oper → (St → Prop) → St → Prop}
  (hV : ∀ {o : Oper} {K : St → Prop} {st : St},V o K st → dstOk n o = true → ∀ {G : Gh} {w : World} {a : Act},Inv G w → FRel G w a st → a.tmps.size = n → ∀ {r : Option Nat} {next : Act → World → Prop} {Q : Exit → Act → World → Prop},
   (∀ a' w' G' st',Ext G w G' w' → Inv G' w' → FRel G' w' a' st' → a'.tmps.size = n → K st' → next a' w') → o.wpIn (fen r) 0 E.P a w next Q)
  {ops : Array Oper} {K : St → Prop} {α : Type} (pre : List Oper) (o : Oper) (post : List Oper) (hops : ops.toList = pre ++ o :: post) (hg : o.guard = none) (I : α → Head) (J : α → Prop) (hok : ∀ x,(I x).ok = true)
  (h : vcOps E ops pre (V o (vcOps E ops post (fun st' => ∃ x,J x ∧ Fits st' (I x)))) st) (hk : ∀ x,J x → K (I x).st) : ACut E n ops K st .mk := by
 refine ⟨fun hc id r hrd G w a hi hf hs => wpIn_region_list ?_⟩
 rw [hops] at hc ⊢
 simp only [List.all_append,List.all_cons,Bool.and_eq_true] at hc
 obtain ⟨c1,c2,c3⟩ := hc
 refine vcOps_pre hE pre h c1 hi hf hs fun a1 w1 G1 st1 x1 i1 f1 s1 k1 => ?_
 unfold wpListIn
 rw [if_pos (by simp [Region.wanted,hg])]
 refine hV k1 c2 i1 f1 s1 fun a2 w2 G2 st2 x2 i2 f2 s2 k2 => ?_
 refine vcOps_sound hE post k2 c3 i2 f2 s2 ?_
 rintro a3 w3 G3 st3 x3 i3 f3 s3 ⟨x,hj,hfit⟩
 exact ⟨G3,(I x).st,((x1.trans x2).trans x3).toL,i3,f3.weaken hfit (hok x),s3,rfl,hk x hj⟩
theorem acut_at_k (k : Nat) (hE : EnvOk E) {V : Oper → (St → Prop) → St → Prop}
  (hV : ∀ {o : Oper} {K : St → Prop} {st : St},V o K st → dstOk n o = true → ∀ {G : Gh} {w : World} {a : Act},Inv G w → FRel G w a st → a.tmps.size = n → ∀ {r : Option Nat} {next : Act → World → Prop} {Q : Exit → Act → World → Prop},
   (∀ a' w' G' st',Ext G w G' w' → Inv G' w' → FRel G' w' a' st' → a'.tmps.size = n → K st' → next a' w') → o.wpIn (fen r) 0 E.P a w next Q)
  {ops : Array Oper} {K : St → Prop} {α : Type} {o : Oper} {post : List Oper} (hops : ops.toList.drop k = o :: post) (hg : o.guard = none) (I : α → Head) (J : α → Prop) (hok : ∀ x,(I x).ok = true)
  (h : vcOps E ops (ops.toList.take k) (V o (vcOps E ops post (fun st' => ∃ x,J x ∧ Fits st' (I x)))) st) (hk : ∀ x,J x → K (I x).st) : ACut E n ops K st .mk :=
 acut_at hE hV (ops.toList.take k) o post (by rw [← hops,List.take_append_drop]) hg I J hok h hk
end
end Go.Proofs.YteppmjlfpniiaaaGreat.Abs
/- The abstract machine,part 30: appends to slices of shared memory,in place or not. -/
namespace Go.Proofs.YteppmjlfpniiaaaGreat.Abs
set_option linter.unusedSimpArgs false
open Go Go.RowKit
section
variable {E : Env} {G : Gh} {w : World} {a : Act} {st : St} {n : Nat}
def vcAppE (E : Env) (o : Oper) (st : St) (S : Eff → Prop) : Prop :=
 match o.dst,o.op with
 | some _,.call c => match c.callee,c.argTypes.toList,c.args.toList with
  | .builtin .append,[t,t2],[s,y2] => match E.T t,st.sv E.T t s,st.sv E.T t2 y2 with
   | some ⟨.slice e,_,_,_⟩,.v (.mslice b 0 len cap),.v (.slice sz2 l2) => match E.T e with
    | some i => ∃ es tail,((cap = 0 ∧ es = [] ∧ tail = []) ∨ st.mem b = some (.cells ((es.map AV.cells).flatten ++ tail))) ∧
     (t2 = t ∧ len = es.length ∧ len ≤ cap ∧ cap ≤ maxLen ∧ tail.length = (cap - len) * i.size ∧ sz2 = i.size ∧ (∀ x ∈ es,x.cells.length = i.size ∧ x.cells.all flat = true) ∧ i.bytes ≠ 0 ∧ 0 < l2.length ∧ (es.length + l2.length) * i.bytes ≤ 140737488355328) ∧
     (es.length + l2.length ≤ cap → S (.call (.mslice b 0 (es.length + l2.length) cap) (upd st.mem b (some (.cells (((es ++ l2).map AV.cells).flatten ++ tail.drop (l2.length * i.size))))))) ∧
     (cap < es.length + l2.length → ∀ b' cap' tail',st.mem b' = none → es.length + l2.length ≤ cap' → cap' ≤ maxLen → tail'.length = (cap' - (es.length + l2.length)) * i.size →
      S (.call (.mslice b' 0 (es.length + l2.length) cap') (upd st.mem b' (some (.cells (((es ++ l2).map AV.cells).flatten ++ tail'))))))
    | none => False
   | _,_,_ => False
  | _,_,_ => False
 | some _,.makeMap t r => match r,E.T t with
  | none,some ⟨.map _ _,_,_,_⟩ => ∀ b,st.mem b = none → S (.call (.map b) (upd st.mem b (some (.map []))))
  | _,_ => False
 | some d,.box t x => match E.H d,st.sv E.T t x with
  | .shared,.v y => known y = true ∧ ∀ b,st.mem b = none → S (.call (.ptr b 0) (upd st.mem b (some (.cells y.cells))))
  | _,_ => False
 | _,_ => False
theorem vcAppE_congr {o : Oper} {st st' : St} {S S' : Eff → Prop} (hsv : ∀ x ∈ o.op.operands,∀ ty,st.sv E.T ty x = st'.sv E.T ty x) (hm : st.mem = st'.mem) (h : vcAppE E o st' S) (hs : ∀ x m,S (.call x m) → S' (.call x m)) : vcAppE E o st S' := by
 unfold vcAppE at h ⊢
 split at h
 ·rename_i d c hdst hop
  split at h
  ·rename_i t t2 s y2 hcb hts hys
   have hmem : ∀ x ∈ c.args.toList,x ∈ o.op.operands := fun x hx => by rw [hop]; simp [Op.operands,Call.operands,hcb]; simpa using hx
   rw [hsv s (hmem s (by rw [hys]; simp)),hsv y2 (hmem y2 (by rw [hys]; simp)),hm]
   split at h
   ·rename_i e sz0 by0 z0 b len cap sz2 l2 hT hv hy
    split at h
    ·rename_i i hTe
     obtain ⟨es,tail,h1,h2,h3,h4⟩ := h
     exact ⟨es,tail,h1,h2,fun q => hs _ _ (h3 q),fun q b' cap' tail' q1 q2 q3 q4 => hs _ _ (h4 q b' cap' tail' q1 q2 q3 q4)⟩
    ·exact h.elim
   ·exact h.elim
  ·exact h.elim
 ·rename_i d t r hdst hop
  split at h
  ·rw [hm]
   exact fun b hb => hs _ _ (h b hb)
  ·exact h.elim
 ·rename_i d t x hdst hop
  have hx : x ∈ o.op.operands := by rw [hop]; simp [Op.operands]
  rw [hsv x hx,hm]
  split at h
  ·rename_i y hH hv
   exact ⟨h.1,fun b hb => hs _ _ (h.2 b hb)⟩
  ·exact h.elim
 ·exact h.elim
def vcAppG (E : Env) (o : Oper) (K : St → Prop) (st : St) : Prop := vcAppE E o st fun e => K (st.eff o.dst e)
theorem vcAppG_sound (hE : EnvOk E) {o : Oper} {K : St → Prop} (h : vcAppG E o K st) (hd : dstOk n o = true) (hi : Inv G w) (hf : FRel G w a st) (hs : a.tmps.size = n) {r : Option Nat}
  {next : Act → World → Prop} {Q : Exit → Act → World → Prop} (hn : ∀ a' w' G' st',Ext G w G' w' → Inv G' w' → FRel G' w' a' st' → a'.tmps.size = n → K st' → next a' w') : o.wpIn (fen r) 0 E.P a w next Q := by
 have hd' : ∀ t,o.dst = some t → t < a.tmps.size := fun t ht => by rw [hs]; simpa [dstOk,ht] using hd
 obtain ⟨β,R,hf⟩ := hf
 unfold vcAppG vcAppE at h
 split at h
 ·rename_i d c hdst hop
  split at h
  ·rename_i t t2 s y2 hcb hts hys
   split at h
   ·rename_i e sz0 by0 z0 b len cap sz2 l2 hT hv hy
    split at h
    ·rename_i i hTe
     obtain ⟨es,tail,hbox,⟨rfl,rfl,hlc,hcm0,htl,rfl,hes,hby,hpos,hbd⟩,hk1,hk2⟩ := h
     obtain ⟨dd,hdd,hu,hr⟩ := run_und hE hT
     cases dd <;> simp only [descOk] at hdd
     subst hdd
     have ok := hE _ _ hTe
     obtain ⟨fi,zv,d',g1,g2,g3,g4,g5,g6,g7,g8⟩ := ok.ex
     have q1 := hf.eval E.T t2 s
     rw [hv] at q1
     have q2 := hf.eval E.T t2 y2
     rw [hy] at q2
     obtain ⟨news,hn1,hn2,hn3,hn4,hn5⟩ := slice_row (srep_v q2)
     have hml : es.length + l2.length ≤ maxLen := by
      have : es.length + l2.length ≤ (es.length + l2.length) * i.bytes := Nat.le_mul_of_pos_right _ (by omega)
      unfold maxLen; omega
     have hcat : ((es ++ l2).map AV.cells).flatten = (es.map AV.cells).flatten ++ (l2.map AV.cells).flatten := by rw [List.map_append,List.flatten_append]
     have fin : ∀ (z : Value) (w' : World) (st' : St),(Builtin.append_ #[t2,t2] o.type #[a.eval s,a.eval y2]).run E.P w = .ok z w' → Ext G w G w' → Inv G w' → FRel G w' (a.put (some d) z) st' → K st' → o.wpIn (fen r) 0 E.P a w next Q := by
      intro z w' st' hrun x1 x2 x3 hk
      have hexec : (execOp a.eval o).run E.P w = .ok (.value z) w' := by
       have e1 : c.argTypes = #[t2,t2] := by apply Array.ext'; simp [hts]
       have e2 : c.args.map a.eval = #[a.eval s,a.eval y2] := by apply Array.ext'; rw [Array.toList_map,hys]; rfl
       unfold execOp
       simp only [hop,resolve,hcb,Sem.run_bind,Sem.run_pure,Result.andThen_ok,invoke]
       rw [e1,e2]
       simp [builtin,hrun]
      refine oper_in (fun c hc => by rw [hop] at hc; cases hc) ?_
      rw [hexec]
      have hnn := hn _ _ _ _ x1 x2 x3 (by rw [put_size]; exact hs) hk
      show next (a.put o.dst _) _
      rw [hdst]
      exact hnn
     by_cases hroom : es.length + l2.length ≤ cap
     ·have hb : st.mem b = some (.cells ((es.map AV.cells).flatten ++ tail)) := by
       rcases hbox with ⟨q,_,_⟩ | q
       ·omega
       ·exact q
      have hval : a.eval s = .slice (some ⟨b,0,none⟩) es.length cap := rep_mslice_pos (srep_v q1) (.inr (by omega))
      obtain ⟨_,_,_,_,cs,eT,hheap,hreps⟩ := hf.mem b _ hb
      obtain ⟨c1,c2,rfl,r1,r2⟩ := Reps.split hreps
      have hrow := row_flatten (fun x hx => (hes x hx).1) r1
      have hc1 : c1.length = es.length * i.size := hrow.1
      have hc2 : c2.length = (cap - es.length) * i.size := by rw [← r2.1,htl]
      have hnl : news.length = l2.length * i.size := hn1.1
      have hle : l2.length * i.size ≤ (cap - es.length) * i.size := Nat.mul_le_mul_right _ (by omega)
      have hfit : es.length * fi.size + news.length ≤ (c1 ++ c2).length := by rw [g2,List.length_append,hc1,hc2,hnl]; omega
      have hrun := run_append_room2 (P := E.P) w t2 o.type e fi hu g1 b es.length cap l2.length (a.eval y2) news (fun w' => hn4 E.P w') (by rw [g2]; exact hn3 E.P w (fun _ => rfl)) hroom hheap hfit (row_plain hn1 hn2)
      rw [g2] at hrun
      have hwr : writeAt (c1 ++ c2) (es.length * i.size) news = c1 ++ (news ++ c2.drop news.length) := by
       unfold writeAt
       rw [List.take_append_of_le_length (by omega),← hc1,List.take_length,List.append_assoc]
       congr 2
       rw [List.drop_append,List.drop_eq_nil_of_le (by omega),List.nil_append]
       congr 1
       omega
      have hm := hf.mset hi hb (o := .cells (writeAt (c1 ++ c2) (es.length * i.size) news).toArray eT (0,0)) (y := .cells (((es ++ l2).map AV.cells).flatten ++ tail.drop (l2.length * i.size)))
       (fun w' hw' hx' => ⟨_,_,hw',by
        rw [hwr,hcat,List.append_assoc]
        exact Reps.append (r1.ext hx') (Reps.append ((flatten_row hn1).ext hx') (by rw [← hnl]; exact (r2.ext hx').drop _))⟩) none (fun t ht => by cases ht)
      obtain ⟨x1,x2,x3⟩ := hm
      have x4 := x3.put (d := some d) (x := .v (.mslice b 0 (es.length + l2.length) cap)) (v := .slice (some ⟨b,0,none⟩) (es.length + l2.length) cap) (fun t ht => by cases ht; exact hd' d hdst) (.mslice _ _ _ _) (fun _ h => h.elim)
      exact fin _ _ _ (by rw [hval]; exact hrun) x1 x2 ⟨β,R,x4⟩ (by have := hk1 hroom; rw [hdst] at this; exact this)
     ·obtain ⟨base,olds,hval,ho1,hold⟩ : ∃ (base : Option Addr) (olds : List Value),a.eval s = .slice base es.length cap ∧ RowRep G.com w i.size es olds ∧ (Builtin.firstCells fi.size es.length (.slice base es.length cap)).run E.P w.drew = .ok olds.toArray w.drew := by
       have nil : ∀ base,es = [] → (Builtin.firstCells fi.size es.length (.slice base es.length cap)).run E.P w.drew = .ok ([] : List Value).toArray w.drew := by
        intro base q
        subst q
        cases base <;> simp [Builtin.firstCells,loadCells,loadCellsFrom]
       by_cases hz : es = []
       ·subst hz
        rcases rep_mslice (srep_v q1) with q | ⟨q0,q3,q⟩
        ·exact ⟨_,[],q,RowRep.nil _,nil _ rfl⟩
        ·exact ⟨none,[],by rw [q,q3]; rfl,RowRep.nil _,nil _ rfl⟩
       ·have hpe : 0 < es.length := List.length_pos_iff.2 hz
        have hb : st.mem b = some (.cells ((es.map AV.cells).flatten ++ tail)) := by
         rcases hbox with ⟨_,q,_⟩ | q
         ·exact absurd q hz
         ·exact q
        have hval : a.eval s = .slice (some ⟨b,0,none⟩) es.length cap := rep_mslice_pos (srep_v q1) (.inl hpe)
        obtain ⟨_,_,_,_,cs,eT,hheap,hreps⟩ := hf.mem b _ hb
        obtain ⟨c1,c2,rfl,r1,r2⟩ := Reps.split hreps
        have hrow := row_flatten (fun x hx => (hes x hx).1) r1
        have hc1 : c1.length = es.length * i.size := hrow.1
        refine ⟨_,c1,hval,hrow,?_⟩
        rw [g2]
        simp only [Builtin.firstCells]
        have := loadCells_run (P := E.P) (w := w.drew) (b := b) (off := 0) (vs := fun j => c1.getD j undef) (es.length * i.size) (fun j hj => by
         rw [Nat.zero_add]
         have hc : w.drew.cell? ⟨b,j,none⟩ = w.cell? ⟨b,j,none⟩ := rfl
         rw [hc,cell_block hheap,List.getElem?_append_left (by omega)]
         simp [List.getElem?_eq_getElem (show j < c1.length by omega)])
        rw [this]
        congr 2
        apply List.ext_getElem
        ·simp [hc1]
        ·intro j h1 h2
         simp [List.getElem?_eq_getElem h2]
      have hrun := run_append_grow2 (P := E.P) w t2 o.type e fi zv hu g1 g4 base es.length cap l2.length (a.eval y2) olds news hold (fun w' => hn4 E.P w') (by rw [g2]; exact hn3 E.P w.drew (fun _ => rfl)) (by omega) hml (by rw [g3]; exact hbd)
      have hge := grownCap_ge w (es.length + l2.length) cap e
      have hcm := grownCap_le_maxLen w (es.length + l2.length) cap e hml
      have hzl : zv.cells.size = i.size := by
       have := rep_cells (g7 G.com w) ok.zc.2.1
       have h1 := this.1
       rw [ok.zc.1,ok.zc.2.2.1] at h1
       simpa using h1.symm
      obtain ⟨f1,f2,f3,f4⟩ := (drew_frame hf hi).fresh (drew_grow hi).2 (d := some d) (fun t ht => by cases ht; exact hd' d hdst)
       (o := .cells (olds ++ news ++ (Builtin.zeroCells zv.cells (grownCap w (es.length + l2.length) cap e - (es.length + l2.length))).toList).toArray e (0,0))
       (x := .mslice w.drew.heap.size 0 (es.length + l2.length) (grownCap w (es.length + l2.length) cap e)) (v := .slice (some ⟨w.heap.size,0,none⟩) (es.length + l2.length) (grownCap w (es.length + l2.length) cap e))
       (y := .cells (((es ++ l2).map AV.cells).flatten ++ List.replicate (Builtin.zeroCells zv.cells (grownCap w (es.length + l2.length) cap e - (es.length + l2.length))).toList.length .top))
       (fun w' hw' hx' => ⟨_,_,hw',by
        rw [hcat]
        have hx2 := (drew_grow hi).1.trans hx'
        exact Reps.append (Reps.append ((flatten_row ho1).ext hx2) ((flatten_row hn1).ext hx2)) (reps_top _)⟩)
       (fun com w' => .mslice _ _ _ _)
      exact fin _ _ _ (by rw [hval]; exact hrun) ((drew_grow hi).1.trans f2) f3 f4 (by have := hk2 (by omega) _ _ (List.replicate (Builtin.zeroCells zv.cells (grownCap w (es.length + l2.length) cap e - (es.length + l2.length))).toList.length .top) f1 hge hcm (by rw [List.length_replicate,Array.length_toList,size_zeroCells,hzl]); rw [hdst] at this; exact this)
    ·exact h.elim
   ·exact h.elim
  ·exact h.elim
 ·rename_i d t r hdst hop
  refine vcOp_sound hE (K := K) ?_ hd hi ⟨β,R,hf⟩ hs hn
  have htk : takes o = none := by unfold takes; rw [hop]
  unfold vcOp
  rw [hop]
  show ev E o _ _ _ _ _
  unfold ev
  rw [hop,htk]
  split at h
  ·rename_i hT
   simp only [hT]
   intro b hb
   exact h b hb
  ·exact h.elim
 ·rename_i d t x hdst hop
  refine vcOp_sound hE (K := K) ?_ hd hi ⟨β,R,hf⟩ hs hn
  have htk : takes o = none := by unfold takes; rw [hop]
  unfold vcOp
  rw [hop]
  show ev E o _ _ _ _ _
  unfold ev
  rw [hop,htk]
  split at h
  ·rename_i y hH hv
   simp only [hdst,hH,hv]
   refine ⟨h.1,fun b hb => ?_⟩
   have := h.2 b hb
   rw [hdst] at this
   exact this
  ·exact h.elim
 ·exact h.elim
end
end Go.Proofs.YteppmjlfpniiaaaGreat.Abs
/- Statements whose order is open,part 1: what an operation asks hangs on what it looks at alone. -/
namespace Go.Proofs.YteppmjlfpniiaaaGreat.Abs
set_option linter.unusedSimpArgs false
open Go Go.RowKit
section
variable {E : Env}
theorem vcLoad_congr {t : TypeId} {a : SV} {loc loc' : Nat → Option (List AV)} {mem : Mem} {K : AV → Prop} (h : ∀ k,a.refs k → loc k = loc' k) (hv : vcLoad E t a loc mem K) : vcLoad E t a loc' mem K := by
 unfold vcLoad at hv ⊢
 cases a with
 | loc i off => simp only at hv ⊢; rw [← h i rfl]; exact hv
 | lslice => exact hv
 | v x => cases x <;> exact hv
theorem vcStore_congr {t : TypeId} {a x : SV} {loc loc' : Nat → Option (List AV)} {mem : Mem} {K : Eff → Prop} (h : ∀ k,a.refs k → loc k = loc' k) (hv : vcStore E t a x loc mem K) : vcStore E t a x loc' mem K := by
 unfold vcStore at hv ⊢
 cases a with
 | loc i off =>
  cases x with
  | v x => simp only at hv ⊢; rw [← h i rfl]; exact hv
  | _ => exact hv
 | lslice => exact hv
 | v y => cases y <;> cases x <;> exact hv
theorem zip_congr {ρ ρ' : TypeId → Operand → SV} : ∀ {ts : List TypeId} {xs : List Operand},(∀ x ∈ xs,∀ ty,ρ ty x = ρ' ty x) → ((ts.zip xs).map fun p => ρ p.1 p.2) = (ts.zip xs).map fun p => ρ' p.1 p.2
 | [],_,_ => rfl
 | _ :: _,[],_ => rfl
 | t :: ts,x :: xs,h => by
  simp only [List.zip_cons_cons,List.map_cons]
  rw [h x (by simp) t,zip_congr fun y hy => h y (by simp [hy])]
theorem vcBuiltin_congr {b : Builtin} {ts : List TypeId} {xs xs0 : List SV} {os : List Bool} {loc loc' : Nat → Option (List AV)} {K : Eff → Prop} (h : ∀ k,(∃ x ∈ xs,x.refs k) → loc k = loc' k)
  (hv : vcBuiltin E b ts xs xs0 os loc K) : vcBuiltin E b ts xs xs0 os loc' K := by
 unfold vcBuiltin at hv ⊢
 cases b <;> simp only at hv ⊢ <;> try exact hv
 split at hv
 ·rename_i t _ d s _
  unfold vcCopy at hv ⊢
  split at hv
  ·rename_i i off len cap _ _ _
   rw [← h i ⟨.lslice i off len cap,by simp,rfl⟩]
   exact hv
  ·exact hv.elim
 ·exact hv.elim
theorem ev_congr {o : Oper} {ρ ρ' : TypeId → Operand → SV} {ow ow' : Operand → Bool} {loc loc' : Nat → Option (List AV)} {mem : Mem} {K : Eff → Prop}
  (hρ : ∀ x ∈ o.op.operands,∀ ty,ρ ty x = ρ' ty x) (hw : ∀ x ∈ o.op.operands,ow x = ow' x) (hl : ∀ k,(∃ x ∈ o.op.operands,∃ ty,(ρ ty x).refs k) ∨ o.dst = some k → loc k = loc' k)
  (h : ev E o ρ ow loc mem K) : ev E o ρ' ow' loc' mem K := by
 obtain ⟨dst,op,type,pos,after,guard⟩ := o
 unfold ev at h ⊢
 cases op <;> simp only [Op.operands] at hρ hw hl h ⊢
 case move x => rw [← hρ x (by simp),← hw x (by simp)]; exact h
 case assign x => rw [← hρ x (by simp),← hw x (by simp)]; exact h
 case pick c x y => rw [← hρ c (by simp),← hρ x (by simp),← hρ y (by simp)]; exact h
 case alloc t =>
  cases dst with
  | none => exact h
  | some d =>
   simp only at h ⊢
   split at h
   ·rename_i i h1 h2
    exact ⟨by rw [← hl d (.inr rfl)]; exact h.1,h.2⟩
   ·exact h
   ·exact h.elim
 case box t x =>
  rw [← hρ x (by simp)]
  split at h
  ·rename_i d y hx
   refine ⟨h.1,?_⟩
   have h2 := h.2
   split at h2
   ·exact h2
   ·exact ⟨by rw [← hl d (.inr rfl)]; exact h2.1,h2.2⟩
   ·exact h2
  ·exact h.elim
 case build t parts =>
  have e : ∀ f : Nat × Operand → TypeId,(parts.toList.map fun p => (p.1,ρ (f p) p.2)) = parts.toList.map fun p => (p.1,ρ' (f p) p.2) := fun f =>
   List.map_congr_left fun p hp => by rw [hρ p.2 (by simp; exact ⟨p.1,by simpa using hp⟩)]
  rw [← e]; exact h
 case buildSlice t len parts =>
  have e : ∀ f : Nat × Operand → TypeId,(parts.toList.map fun p => (p.1,ρ (f p) p.2)) = parts.toList.map fun p => (p.1,ρ' (f p) p.2) := fun f =>
   List.map_congr_left fun p hp => by rw [hρ p.2 (by simp; exact ⟨p.1,by simpa using hp⟩)]
  rw [← e]; exact h
 case load t x => rw [← hρ x (by simp)]; exact vcLoad_congr (fun k hk => hl k (.inl ⟨x,by simp,0,hk⟩)) h
 case store t p x => rw [← hρ p (by simp),← hρ x (by simp)]; exact vcStore_congr (fun k hk => hl k (.inl ⟨p,by simp,0,hk⟩)) h
 case nilCheck x => rw [← hρ x (by simp)]; exact h
 case binOp op t x y yt => rw [← hρ x (by simp),← hρ y (by simp)]; exact h
 case unOp op t x => rw [← hρ x (by simp)]; exact h
 case convert s d x => rw [← hρ x (by simp)]; exact h
 case makeFunc f first caps =>
  have e1 : first.toList.map (ρ 0) = first.toList.map (ρ' 0) := List.map_congr_left fun x hx => hρ x (by simp; exact .inl (by simpa using hx)) 0
  have e2 : caps.toList.map (ρ 0) = caps.toList.map (ρ' 0) := List.map_congr_left fun x hx => hρ x (by simp; exact .inr (by simpa using hx)) 0
  rw [← e1,← e2]; exact h
 case makeSlice t n c =>
  cases dst with
  | none => exact h
  | some d =>
   simp only at h ⊢
   rw [← hρ n (by simp),← hρ c (by simp)]
   split at h
   ·exact h
   ·exact ⟨by rw [← hl d (.inr rfl)]; exact h.1,h.2⟩
 case makeMap t r => exact h
 case lookup t x k ok => rw [← hρ x (by simp),← hρ k (by simp)]; exact h
 case mapUpdate t x k y => rw [← hρ x (by simp),← hρ k (by simp),← hρ y (by simp)]; exact h
 case range t x => rw [← hρ x (by simp)]; exact h
 case next x s => rw [← hρ x (by simp)]; exact h
 case slice t x lo hi mx =>
  rw [← hρ x (by simp)]
  have e : ∀ o : Option Operand,(∀ y,o = some y → ∀ ty,ρ ty y = ρ' ty y) → o.map (ρ 0) = o.map (ρ' 0) := fun o h => by
   cases o with
   | none => rfl
   | some y => simp [h y rfl]
  rw [← e lo (fun y hy => hρ y (by simp [hy])),← e hi (fun y hy => hρ y (by simp [hy])),← e mx (fun y hy => hρ y (by simp [hy]))]; exact h
 case fieldAddr s x f => rw [← hρ x (by simp)]; exact h
 case field s x f => rw [← hρ x (by simp)]; exact h
 case indexAddr t x i => rw [← hρ x (by simp),← hρ i (by simp)]; exact h
 case index t x i => rw [← hρ x (by simp),← hρ i (by simp)]; exact h
 case extract x i => rw [← hρ x (by simp)]; exact h
 case call c =>
  split at h
  ·rename_i b hb
   have hmem : ∀ x ∈ c.args.toList,x ∈ c.operands := fun x hx => by simp [Call.operands,hb]; simpa using hx
   refine ⟨h.1,?_⟩
   rw [← zip_congr (ρ := ρ) (ρ' := ρ') fun x hx ty => hρ x (hmem x hx) ty]
   have e1 : c.args.toList.map (ρ 0) = c.args.toList.map (ρ' 0) := List.map_congr_left fun x hx => hρ x (hmem x hx) 0
   have e2 : c.args.toList.map ow = c.args.toList.map ow' := List.map_congr_left fun x hx => hw x (hmem x hx)
   rw [← e1,← e2]
   refine vcBuiltin_congr (loc := loc) (fun k hk => ?_) h.2
   obtain ⟨x,hx,hr⟩ := hk
   obtain ⟨p,hp,rfl⟩ := List.mem_map.1 hx
   exact hl k (.inl ⟨p.2,hmem p.2 (List.of_mem_zip hp).2,p.1,hr⟩)
  ·exact h.elim
theorem ev_unhide {o : Oper} {ρ : TypeId → Operand → SV} {ow : Operand → Bool} {loc : Nat → Option (List AV)} {mem : Mem} {K : Eff → Prop}
  (hd : ∀ d,o.dst = some d → (∀ cells sl,K (.new cells sl) → loc d = none)) (h : ev E o ρ ow (fun _ => none) (fun _ => none) K) : ev E o ρ ow loc mem K := by
 obtain ⟨dst,op,type,pos,after,guard⟩ := o
 unfold ev at h ⊢
 cases op <;> simp only at h ⊢ <;> try exact h
 case alloc t =>
  cases dst with
  | none => exact h
  | some d =>
   simp only at h ⊢
   split at h
   ·exact ⟨hd d rfl _ _ h.2,h.2⟩
   ·exact fun b _ => h b rfl
   ·exact h.elim
 case box t x =>
  split at h
  ·rename_i d y hx
   refine ⟨h.1,?_⟩
   have h2 := h.2
   split at h2
   ·exact h2
   ·exact ⟨hd d rfl _ _ h2.2,h2.2⟩
   ·exact fun b _ => h2 b rfl
  ·exact h.elim
 case makeMap t r =>
  split at h
  ·exact fun b _ => h b rfl
  ·exact h.elim
 case lookup t x k ok =>
  unfold vcLookup at h ⊢
  split at h
  ·exact h.elim
  ·exact h.2.elim
  ·exact h.elim
 case mapUpdate t x k y =>
  unfold vcMapUpdate at h ⊢
  split at h
  ·exact h.elim
  ·exact h.2.elim
  ·exact h.elim
 case range t x =>
  unfold vcRange at h ⊢
  split at h
  ·exact fun b _ => h b rfl
  ·exact h.elim
 case next x s =>
  refine ⟨h.1,?_⟩
  have h2 := h.2
  unfold vcNext at h2 ⊢
  split at h2
  ·exact h2.elim
  ·exact h2.elim
 case call c =>
  split at h
  ·refine ⟨h.1,?_⟩
   have h2 := h.2
   unfold vcBuiltin at h2 ⊢
   split at h2 <;> try exact h2
   split at h2
   ·unfold vcCopy at h2 ⊢
    split at h2
    ·split at h2
     ·rename_i e; cases e
     ·exact h2.elim
    ·exact h2.elim
   ·exact h2.elim
  ·exact h.elim
 case load t x =>
  unfold vcLoad at h ⊢
  split at h <;> first | exact h | exact h.elim
 case store t p x =>
  unfold vcStore at h ⊢
  split at h <;> first | exact h | exact h.elim
 case makeSlice t n c =>
  cases dst with
  | none => exact h
  | some d =>
   simp only at h ⊢
   split at h
   ·unfold vcMakeSlice at h ⊢
    split at h
    ·split at h
     ·exact ⟨h.1,fun b _ => h.2 b rfl⟩
     ·exact h.elim
    ·exact h.elim
   ·refine ⟨?_,h.2⟩
    have h2 := h.2
    unfold vcMakeSlice at h2
    split at h2
    ·split at h2
     ·exact hd d rfl _ _ h2.2
     ·exact h2.elim
    ·exact h2.elim
def isLook : Op → Bool
 | .lookup .. | .load .. => true
 | _ => false
theorem ev_look {o : Oper} {ρ : TypeId → Operand → SV} {ow : Operand → Bool} {loc : Nat → Option (List AV)} {mem mem' : Mem} {K : Eff → Prop}
  (hl : isLook o.op = true) (hm : ∀ b x,mem b = some x → mem' b = some x) (h : ev E o ρ ow (fun _ => none) mem K) : ev E o ρ ow loc mem' K := by
 obtain ⟨dst,op,type,pos,after,guard⟩ := o
 unfold ev at h ⊢
 cases op <;> simp only [isLook,Bool.false_eq_true] at h hl ⊢
 case lookup t x k ok =>
  unfold vcLookup at h ⊢
  split at h
  ·split at h
   ·rename_i hb; rw [hm _ _ hb]; exact h
   ·exact h.elim
  ·refine ⟨h.1,?_⟩
   have h := h.2
   split at h
   ·rename_i hb; rw [hm _ _ hb]; exact h
   ·exact h.elim
  ·exact h.elim
 case load t x =>
  unfold vcLoad at h ⊢
  split at h
  ·exact h
  ·exact h.elim
  ·split at h
   ·rename_i hb; rw [hm _ _ hb]; exact h
   ·exact h.elim
  ·exact h.elim
end
end Go.Proofs.YteppmjlfpniiaaaGreat.Abs
