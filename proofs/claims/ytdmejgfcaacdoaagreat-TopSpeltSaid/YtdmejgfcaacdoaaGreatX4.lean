/- Lemmas for the statements of this seat (X4): they hold without conditions beyond those that each one states. -/
import Derived.Test.YtdmejgfcaacdoaaGreatX3
import Derived.MapKept
import Derived.Laws.RangeAny
/- The abstract machine,part 12b: shared memory: new blocks,maps,walks over strings; copies. -/
namespace Go.Proofs.YtdmejgfcaacdoaaGreat.Abs
set_option linter.unusedSimpArgs false
open Go Go.RowKit
section
variable {E : Env} {G : Gh} {w : World} {β : Nat → Nat} {R : Nat → Role} {a : Act} {st : St}
theorem FRelB.fresh (h : FRelB G w β R a st) (hi : Inv G w) {d : Option Tmp} (hd : ∀ t,d = some t → t < a.tmps.size) {o : Obj} {x : AV} {v : Value} {y : Box}
  (hy : ∀ w',w'.heap[w.heap.size]? = some o → Ext G w G w' → BoxRep G.com w' w.heap.size y) (hx' : ∀ com w',Rep com w' x v) :
  st.mem w.heap.size = none ∧ Ext G w G (w.alloc o) ∧ Inv G (w.alloc o) ∧ FRel G (w.alloc o) (a.put d v) (st.eff d (.mput x w.heap.size y)) := by
 have hn : st.mem w.heap.size = none := by
  cases hm : st.mem w.heap.size with
  | none => rfl
  | some x => have := (h.mem _ x hm).2.1; omega
 have h0 : G.com w.heap.size = 0 := hi.com_new (Nat.le_refl _)
 obtain ⟨hx,hi'⟩ := alloc_grow hi o 0 (fun h => absurd rfl h)
 have hf := h.alloc hi o 0 (fun h => absurd rfl h)
 rw [setCom_zero G h0] at hx hi' hf
 have hfree : ∀ b,R b ≠ .free → b ≠ w.heap.size := fun b hb e => by have := h.rlt b hb; omega
 refine ⟨hn,hx,hi',?_⟩
 have hf2 : FRelB G (w.alloc o) β (upd R w.heap.size .mem) a { st with mem := upd st.mem w.heap.size (some y) } := by
  refine ⟨hf.defers,hf.vals,fun s hs => ?_,fun i l hl => ?_,hf.ref,fun b z hb => ?_,fun b z hb => ?_,fun b hb => ?_⟩
  ·obtain ⟨sz,l,e1,hv⟩ := hf.own s hs
   refine ⟨sz,l,e1,hv.imp id ?_⟩
   rintro ⟨b,len,cap,cs,el,h1,h2,h3,h4,h5,h6,h7,h8⟩
   exact ⟨b,len,cap,cs,el,h1,h2,h3,h4,h5,h6,h7,by rw [upd_ne _ _ (hfree b (by rw [h8]; simp))]; exact h8⟩
  ·obtain ⟨h1,h2⟩ := hf.loc i l hl
   exact ⟨h1,by rw [upd_ne _ _ (hfree _ (by rw [h2]; simp))]; exact h2⟩
  ·by_cases e : b = w.heap.size
   ·subst e
    simp only [upd_same,Option.some.injEq] at hb
    subst hb
    refine ⟨hi.below.size,by simp,fun hl => absurd (hi.lock _ hl) (Nat.lt_irrefl _),h0,hy _ (heap_alloc_new w o) hx⟩
   ·simp only [upd_ne _ _ e] at hb
    exact hf.mem b z hb
  ·by_cases e : b = w.heap.size
   ·subst e; rw [upd_same]
   ·simp only [upd_ne _ _ e] at hb ⊢
    exact hf.rmem b z hb
  ·by_cases e : b = w.heap.size
   ·subst e; simp
   ·rw [upd_ne _ _ e] at hb
    exact hf.rlt b hb
 have := hf2.put (d := d) (x := .v x) (v := v) hd (hx' _ _) (fun _ h => h.elim)
 exact ⟨β,_,this⟩
theorem FRelB.mput (h : FRelB G w β R a st) (hi : Inv G w) {b : Nat} {x : Box} (hb : st.mem b = some x) {o : Obj} {y : Box} (ho : ∀ w',w'.heap[b]? = some o → Ext G w G w' → BoxRep G.com w' b y) {d : Option Tmp}
  (hd : ∀ t,d = some t → t < a.tmps.size) {z : AV} {v : Value} (hz : ∀ com w',Rep com w' z v) :
  Ext G w G (w.setBlock' b o) ∧ Inv G (w.setBlock' b o) ∧ FRel G (w.setBlock' b o) (a.put d v) (st.eff d (.mput z b y)) := by
 obtain ⟨h1,h2,h3⟩ := h.mset hi hb ho none (fun t ht => by cases ht)
 refine ⟨h1,h2,⟨β,R,?_⟩⟩
 have h3' : FRelB G (w.setBlock' b o) β R a { st with mem := upd st.mem b (some y) } := h3
 exact h3'.put (d := d) (x := .v z) (v := v) hd (hz _ _) (fun _ h => h.elim)
/-! ### Maps with numbers for keys -/
theorem mfind_sound {com : Nat → Nat} {w : World} {q : IntKind} {n : Int} : ∀ (kv : List (AV × AV)) (es : List MapEntry) (i : Nat) {r : Option AV},mfind (.int q n) kv = some r → kv.length = es.length →
  (∀ (i : Nat) (k x : AV) (m : MapEntry),kv[i]? = some (k,x) → es[i]? = some m → Rep com w k m.key ∧ Rep com w x m.val) →
  match r with
  | some x => ∃ j v,Instr.findNow (.int q) (.int q n) es i = some (some (j,v)) ∧ Rep com w x v
  | none => Instr.findNow (.int q) (.int q n) es i = some none
 | [],[],i,r,h,_,_ => by
  simp only [mfind,Option.some.injEq] at h
  subst h
  rfl
 | [],_ :: _,_,_,_,h,_ => by simp at h
 | _ :: _,[],_,_,_,h,_ => by simp at h
 | (k,x) :: kv,m :: es,i,r,h,hl,hr => by
  cases k with
  | int p c =>
   obtain ⟨h1,h2⟩ := hr 0 (.int p c) x m rfl rfl
   have hk : m.key = .int p c := rep_int h1
   simp only [mfind] at h
   split at h
   ·rename_i e
    subst e
    have hs : Instr.sameNow (.int p) (.int p n) m.key = some (n == c) := by rw [hk]; simp [Instr.sameNow]
    split at h
    ·rename_i e2
     subst e2
     simp only [Option.some.injEq] at h
     subst h
     refine ⟨i,m.val,?_,h2⟩
     unfold Instr.findNow
     rw [hs]; simp
    ·rename_i e2
     have e3 : (n == c) = false := by simp; exact fun h => e2 h.symm
     have := mfind_sound kv es (i + 1) h (by simpa using hl) (fun j k y m' hk hm => hr (j + 1) k y m' (by simpa using hk) (by simpa using hm))
     have e4 : Instr.findNow (.int p) (.int p n) (m :: es) i = Instr.findNow (.int p) (.int p n) es (i + 1) := by
      conv => lhs; unfold Instr.findNow
      rw [hs,e3]
     rw [e4]; exact this
   ·cases h
  | _ => simp [mfind] at h
theorem isIntKey_inv (hE : EnvOk E) {kt : TypeId} {k : AV} (h : isIntKey E.T kt k) {v : Value} (hv : Rep G.com w k v) : ∃ q n,k = .int q n ∧ v = .int q n ∧ E.P.underlying kt = some (.int q) := by
 unfold isIntKey at h
 split at h
 ·rename_i q _ _ _ q' n hT
  subst h
  obtain ⟨dd,hu,hdd⟩ := (hE _ _ hT).desc
  cases dd <;> simp only [descOk] at hdd
  subst hdd
  cases hv
  exact ⟨_,_,rfl,rfl,hu⟩
 ·exact h.elim
theorem vcLookup_sound (hE : EnvOk E) (hf : FRelB G w β R a st) {t : TypeId} {x k : SV} {ok : Bool} {K : AV → Prop} (h : vcLookup E t x k ok st.mem K) {vx vk : Value} (hx : SRep G.com w β x vx) (hk : SRep G.com w β k vk) :
  ∃ r v,K r ∧ Rep G.com w r v ∧ (Instr.lookup t vx vk ok).run E.P w = .ok v w := by
 unfold vcLookup at h
 split at h
 ·rename_i kt et _ _ _ b l hT
  obtain ⟨dd,hu,hdd⟩ := (hE _ _ hT).desc
  cases dd <;> simp only [descOk] at hdd
  obtain ⟨rfl,rfl⟩ := hdd
  have hvx : vx = .map (some b) := by have := srep_v hx; cases this; rfl
  subst hvx
  split at h
  ·rename_i kv hm
   obtain ⟨_,_,_,_,es,clock,hb,hl,hr⟩ := hf.mem b _ hm
   have hobj := MapKept.run_getObj_map (P := E.P) hb
   obtain ⟨f,hfi,h⟩ := h
   obtain ⟨hck,hfnd⟩ := hfi G.com w vk es.toList (srep_v hk) (by simp [hl]) (fun i k x m hk hm => hr i k x m hk (by simpa using hm))
   have hck := hck es.isEmpty
   split at h
   ·rename_i y i hTe
    obtain ⟨j,v,hfk,hv⟩ := hfnd
    cases ok with
    | true =>
     refine ⟨_,_,h,.tuple [y,.bool true] [v,.bool true] rfl ?_,?_⟩
     ·intro i x u hx hu
      rcases i with _ | _ | i
      ·simp at hx hu; subst hx hu; exact hv
      ·simp at hx hu; subst hx hu; exact .bool _
      ·simp at hx
     ·unfold Instr.lookup
      simp [Sem.run_bind,run_underlying hu,Result.andThen_ok,hobj,hck,hfk]
    | false =>
     refine ⟨_,_,h,hv,?_⟩
     unfold Instr.lookup
     simp [Sem.run_bind,run_underlying hu,Result.andThen_ok,hobj,hck,hfk]
   ·rename_i i hTe
    have hfk := hfnd
    simp only at hfk
    obtain ⟨zv,hz,hzr⟩ := (hE _ _ hTe).zero
    cases ok with
    | true =>
     refine ⟨_,_,h,.tuple [zeroOf i,.bool false] [zv,.bool false] rfl ?_,?_⟩
     ·intro j x u hx hu
      rcases j with _ | _ | j
      ·simp at hx hu; subst hx hu; exact hzr _ _
      ·simp at hx hu; subst hx hu; exact .bool _
      ·simp at hx
     ·unfold Instr.lookup
      simp [Sem.run_bind,run_underlying hu,Result.andThen_ok,hobj,hck,hfk,hz]
    | false =>
     refine ⟨_,_,h,hzr _ _,?_⟩
     unfold Instr.lookup
     simp [Sem.run_bind,run_underlying hu,Result.andThen_ok,hobj,hck,hfk,hz]
   ·exact h.elim
  ·exact h.elim
 ·rename_i kt et _ _ _ b k _ hT
  obtain ⟨hkey,h⟩ := h
  obtain ⟨q,n,rfl,rfl,hku⟩ := isIntKey_inv hE hkey (srep_v hk)
  obtain ⟨dd,hu,hdd⟩ := (hE _ _ hT).desc
  cases dd <;> simp only [descOk] at hdd
  obtain ⟨rfl,rfl⟩ := hdd
  have hvx : vx = .map (some b) := by have := srep_v hx; cases this; rfl
  subst hvx
  split at h
  ·rename_i kv hm
   obtain ⟨_,_,_,_,es,clock,hb,hl,hr⟩ := hf.mem b _ hm
   have hobj := MapKept.run_getObj_map (P := E.P) hb
   have hck : (Instr.checkKey es.isEmpty 10000 kt (.int q n)).run E.P w = .ok () w := MapKept.run_checkKey (k := .int q n) hku (by simp [MapKept.IsKey]) _ 9999
   split at h
   ·rename_i y i hmf hTe
    have hfnd := mfind_sound kv es.toList 0 hmf (by simp [hl]) (fun i k x m hk hm => hr i k x m hk (by simpa using hm))
    obtain ⟨j,v,hfn,hv⟩ := hfnd
    have hfk : (Instr.findKey kt (.int q n) es.toList).run E.P w = .ok (some (j,v)) w := by
     unfold Instr.findKey
     simp [Sem.run_bind,run_underlying hku,Result.andThen_ok,hfn]
    cases ok with
    | true =>
     refine ⟨_,_,h,.tuple [y,.bool true] [v,.bool true] rfl ?_,?_⟩
     ·intro i x u hx hu
      rcases i with _ | _ | i
      ·simp at hx hu; subst hx hu; exact hv
      ·simp at hx hu; subst hx hu; exact .bool _
      ·simp at hx
     ·unfold Instr.lookup
      simp [Sem.run_bind,run_underlying hu,Result.andThen_ok,hobj,hck,hfk]
    | false =>
     refine ⟨_,_,h,hv,?_⟩
     unfold Instr.lookup
     simp [Sem.run_bind,run_underlying hu,Result.andThen_ok,hobj,hck,hfk]
   ·rename_i i hmf hTe
    have hfn := mfind_sound kv es.toList 0 hmf (by simp [hl]) (fun i k x m hk hm => hr i k x m hk (by simpa using hm))
    simp only at hfn
    have hfk : (Instr.findKey kt (.int q n) es.toList).run E.P w = .ok none w := by
     unfold Instr.findKey
     simp [Sem.run_bind,run_underlying hku,Result.andThen_ok,hfn]
    obtain ⟨zv,hz,hzr⟩ := (hE _ _ hTe).zero
    cases ok with
    | true =>
     refine ⟨_,_,h,.tuple [zeroOf i,.bool false] [zv,.bool false] rfl ?_,?_⟩
     ·intro j x u hx hu
      rcases j with _ | _ | j
      ·simp at hx hu; subst hx hu; exact hzr _ _
      ·simp at hx hu; subst hx hu; exact .bool _
      ·simp at hx
     ·unfold Instr.lookup
      simp [Sem.run_bind,run_underlying hu,Result.andThen_ok,hobj,hck,hfk,hz]
    | false =>
     refine ⟨_,_,h,hzr _ _,?_⟩
     unfold Instr.lookup
     simp [Sem.run_bind,run_underlying hu,Result.andThen_ok,hobj,hck,hfk,hz]
   ·exact h.elim
  ·exact h.elim
 ·exact h.elim
theorem vcMapUpdate_sound (hE : EnvOk E) (hf : FRelB G w β R a st) (hi : Inv G w) {t : TypeId} {x k y : SV} {K : Eff → Prop} (h : vcMapUpdate E t x k y st.mem K) {vx vk vy : Value} (hx : SRep G.com w β x vx) (hk : SRep G.com w β k vk)
  (hy : SRep G.com w β y vy) (dst : Option Tmp) (hd : ∀ t,dst = some t → t < a.tmps.size) :
  ∃ e w',K e ∧ (Instr.mapUpdate t vx vk vy).run E.P w = .ok () w' ∧ Ext G w G w' ∧ Inv G w' ∧ FRelB G w' β R (a.put dst undef) (st.eff dst e) := by
 unfold vcMapUpdate at h
 split at h
 ·rename_i kt et _ _ _ b l y hT
  obtain ⟨dd,hu,hdd⟩ := (hE _ _ hT).desc
  cases dd <;> simp only [descOk] at hdd
  obtain ⟨rfl,rfl⟩ := hdd
  have hvx : vx = .map (some b) := by have := srep_v hx; cases this; rfl
  subst hvx
  split at h
  ·rename_i kv hm
   obtain ⟨hfi,h⟩ := h
   obtain ⟨m1,m2,m3,m4,es,clock,hb,hl,hr⟩ := hf.mem b _ hm
   have hobj := MapKept.run_getObj_map (P := E.P) hb
   obtain ⟨hck,hfk⟩ := hfi G.com w vk es.toList (srep_v hk) (by simp [hl]) (fun i k x m hk hm => hr i k x m hk (by simpa using hm))
   have hck := hck false
   simp only at hfk
   have hset : (setObj b (.map (es.push { key := vk,val := vy,born := clock }) (clock + 1))).run E.P w = .ok () (w.setBlock' b (.map (es.push { key := vk,val := vy,born := clock }) (clock + 1))) := by
    simp [setObj,Sem.run,hb,World.setBlock']
   obtain ⟨hxx,hii,hfr⟩ := hf.mset hi hm (o := .map (es.push { key := vk,val := vy,born := clock }) (clock + 1)) (y := .map (kv ++ [(.agg l,y)])) (fun w' hw' hx' => by
    refine ⟨_,_,hw',by simp [hl],fun i k' x' m hk' hm' => ?_⟩
    by_cases hlt : i < kv.length
    ·rw [List.getElem?_append_left hlt] at hk'
     rw [Array.getElem?_push_lt (by omega)] at hm'
     obtain ⟨r1,r2⟩ := hr i k' x' m hk' (by rw [← hm',Array.getElem?_eq_getElem (by omega)])
     exact ⟨r1.ext hx',r2.ext hx'⟩
    ·have e : i = kv.length := by
      have := (List.getElem?_eq_some_iff.1 hk').1
      simp at this; omega
     subst e
     rw [List.getElem?_append_right (Nat.le_refl _)] at hk'
     simp at hk'
     obtain ⟨rfl,rfl⟩ := hk'
     rw [← hl] at hm'
     simp at hm'
     subst hm'
     exact ⟨(srep_v hk).ext hx',(srep_v hy).ext hx'⟩) dst hd
   refine ⟨_,_,h,?_,hxx,hii,hfr⟩
   unfold Instr.mapUpdate
   simp [Sem.run_bind,run_underlying hu,Result.andThen_ok,hobj,hck,hfk,hset]
  ·exact h.elim
 ·rename_i kt et _ _ _ b k y _ hT
  obtain ⟨hkey,h⟩ := h
  obtain ⟨q,n,rfl,rfl,hku⟩ := isIntKey_inv hE hkey (srep_v hk)
  obtain ⟨dd,hu,hdd⟩ := (hE _ _ hT).desc
  cases dd <;> simp only [descOk] at hdd
  obtain ⟨rfl,rfl⟩ := hdd
  have hvx : vx = .map (some b) := by have := srep_v hx; cases this; rfl
  subst hvx
  split at h
  ·rename_i kv hm
   obtain ⟨hmf,h⟩ := h
   obtain ⟨m1,m2,m3,m4,es,clock,hb,hl,hr⟩ := hf.mem b _ hm
   have hobj := MapKept.run_getObj_map (P := E.P) hb
   have hck : (Instr.checkKey false 10000 kt (.int q n)).run E.P w = .ok () w := MapKept.run_checkKey (k := .int q n) hku (by simp [MapKept.IsKey]) _ 9999
   have hfn := mfind_sound kv es.toList 0 hmf (by simp [hl]) (fun i k x m hk hm => hr i k x m hk (by simpa using hm))
   simp only at hfn
   have hfk : (Instr.findKey kt (.int q n) es.toList).run E.P w = .ok none w := by
    unfold Instr.findKey
    simp [Sem.run_bind,run_underlying hku,Result.andThen_ok,hfn]
   have hset : (setObj b (.map (es.push { key := .int q n,val := vy,born := clock }) (clock + 1))).run E.P w = .ok () (w.setBlock' b (.map (es.push { key := .int q n,val := vy,born := clock }) (clock + 1))) := by
    simp [setObj,Sem.run,hb,World.setBlock']
   obtain ⟨hxx,hii,hfr⟩ := hf.mset hi hm (o := .map (es.push { key := .int q n,val := vy,born := clock }) (clock + 1)) (y := .map (kv ++ [(.int q n,y)])) (fun w' hw' hx' => by
    refine ⟨_,_,hw',by simp [hl],fun i k' x' m hk' hm' => ?_⟩
    by_cases hlt : i < kv.length
    ·rw [List.getElem?_append_left hlt] at hk'
     rw [Array.getElem?_push_lt (by omega)] at hm'
     obtain ⟨r1,r2⟩ := hr i k' x' m hk' (by rw [← hm',Array.getElem?_eq_getElem (by omega)])
     exact ⟨r1.ext hx',r2.ext hx'⟩
    ·have e : i = kv.length := by
      have := (List.getElem?_eq_some_iff.1 hk').1
      simp at this; omega
     subst e
     rw [List.getElem?_append_right (Nat.le_refl _)] at hk'
     simp at hk'
     obtain ⟨rfl,rfl⟩ := hk'
     rw [← hl] at hm'
     simp at hm'
     subst hm'
     exact ⟨.int _ _,(srep_v hy).ext hx'⟩) dst hd
   refine ⟨_,_,h,?_,hxx,hii,hfr⟩
   unfold Instr.mapUpdate
   simp [Sem.run_bind,run_underlying hu,Result.andThen_ok,hobj,hck,hfk,hset]
  ·exact h.elim
 ·exact h.elim
theorem vcRange_sound (hE : EnvOk E) (hf : FRelB G w β R a st) (hi : Inv G w) {t : TypeId} {x : SV} {K : Eff → Prop} (h : vcRange E t x st.mem K) {vx : Value} (hx : SRep G.com w β x vx) {d : Option Tmp} (hd : ∀ t,d = some t → t < a.tmps.size) :
  ∃ e v w',K e ∧ (Instr.range t vx).run E.P w = .ok v w' ∧ Ext G w G w' ∧ Inv G w' ∧ FRel G w' (a.put d v) (st.eff d e) := by
 unfold vcRange at h
 split at h
 ·rename_i _ _ _ s hT
  obtain ⟨dd,hu,hdd⟩ := (hE _ _ hT).desc
  cases dd <;> simp only [descOk] at hdd
  obtain rfl := rep_str (srep_v hx)
  obtain ⟨h1,h2,h3,h4⟩ := hf.fresh hi hd (o := .stringIter s 0) (x := .ptr w.heap.size 0) (v := .pointer (some ⟨w.heap.size,0,none⟩)) (y := .iter s 0) (fun w' hw _ => hw) (fun _ _ => .ptr _ _)
  exact ⟨_,_,_,h _ h1,run_range_string w t s hu,h2,h3,h4⟩
 ·exact h.elim
theorem vcNext_sound (hf : FRelB G w β R a st) (hi : Inv G w) {x : SV} {K : Eff → Prop} (h : vcNext x st.mem K) {vx : Value} (hx : SRep G.com w β x vx) {d : Option Tmp} (hd : ∀ t,d = some t → t < a.tmps.size) (P : Program) (ty : TypeId) :
  ∃ e v w',K e ∧ (Instr.next vx true ty).run P w = .ok v w' ∧ Ext G w G w' ∧ Inv G w' ∧ FRel G w' (a.put d v) (st.eff d e) := by
 unfold vcNext at h
 split at h
 ·rename_i b
  obtain rfl := rep_ptr (srep_v hx)
  split at h
  ·rename_i s pos hm
   have hb : w.heap[b]? = some (.stringIter s pos) := (hf.mem b _ hm).2.2.2.2
   by_cases hp : pos < s.size
   ·rw [if_pos hp] at h
    obtain ⟨h1,h2,h3⟩ := hf.mput hi hm (o := .stringIter s (pos + (Utf8.decode s pos).2)) (y := .iter s (pos + (Utf8.decode s pos).2)) (fun w' hw _ => hw) hd
     (z := .tuple [.bool true,.int .i64 pos,.int .i32 (Utf8.decode s pos).1]) (v := .tuple #[.bool true,.int .i64 pos,.int .i32 (Utf8.decode s pos).1]) (fun com w' => by
      refine .tuple _ [.bool true,.int .i64 pos,.int .i32 (Utf8.decode s pos).1] rfl ?_
      intro i x v hx hv
      rcases i with _ | _ | _ | i
      ·simp at hx hv; subst hx hv; exact .bool _
      ·simp at hx hv; subst hx hv; exact .int _ _
      ·simp at hx hv; subst hx hv; exact .int _ _
      ·simp at hx)
    refine ⟨_,_,_,h,?_,h1,h2,h3⟩
    simp [Instr.next,getObj,setObj,Sem.run_bind,Sem.run,hb,Result.andThen,hp,goInt,World.setBlock']
   ·rw [if_neg hp] at h
    refine ⟨_,.tuple #[.bool false],_,h,?_,Ext.refl _ _,hi,β,R,hf.put (d := d) (x := .v (.tuple [.bool false])) hd ?_ (fun _ h => h.elim)⟩
    ·simp [Instr.next,getObj,Sem.run_bind,Sem.run,hb,Result.andThen,hp]
    ·refine Rep.tuple _ [.bool false] rfl ?_
     intro i x v hx hv
     rcases i with _ | i
     ·simp at hx hv; subst hx hv; exact .bool _
     ·simp at hx
  ·exact h.elim
 ·exact h.elim
theorem RowRep.flat {com : Nat → Nat} {w : World} {sz : Nat} : ∀ {l : List AV} {cs : List Value},RowRep com w sz l cs → Reps com w (l.map AV.cells).flatten cs
 | [],cs,h => by
  have : cs = [] := by apply List.eq_nil_of_length_eq_zero; rw [h.1]; simp
  subst this
  exact Reps.nil
 | e :: l,cs,h => by
  obtain ⟨h1,h2,h3⟩ := h
  have he : e.cells.length = sz := h2 e (by simp)
  have hlen : cs.length = sz + l.length * sz := by rw [h1,List.length_cons,Nat.add_mul,Nat.one_mul,Nat.add_comm]
  have e1 : cs = cs.take sz ++ cs.drop sz := (List.take_append_drop sz cs).symm
  have a1 : Reps com w e.cells (cs.take sz) := by
   refine ⟨by rw [he]; simp; omega,fun j x v hj hv => ?_⟩
   have hjs : j < sz := by rw [← he]; exact (List.getElem?_eq_some_iff.1 hj).1
   refine h3 0 e j x v rfl hj ?_
   rw [List.getElem?_take_of_lt hjs] at hv
   simpa using hv
  have a2 : RowRep com w sz l (cs.drop sz) := by
   refine ⟨by simp; omega,fun e' h' => h2 e' (by simp [h']),fun k e' j x v hk hj hv => ?_⟩
   refine h3 (k + 1) e' j x v (by simpa using hk) hj ?_
   rw [List.getElem?_drop] at hv
   rw [← hv]; congr 1; rw [Nat.add_mul,Nat.one_mul]; omega
  rw [e1]
  simp only [List.map_cons,List.flatten_cons]
  exact a1.append a2.flat
theorem copy_sound (hE : EnvOk E) (hf : FRelB G w β R a st) (hi : Inv G w) {t : TypeId} {x y : SV} {K : Eff → Prop} (h : vcCopy E t x y st.loc K) {vx vy : Value} (hx : SRep G.com w β x vx) (hy : SRep G.com w β y vy) {d : Option Tmp}
  (hd : ∀ t,d = some t → t < a.tmps.size) (ts : List TypeId) (vs : List Value) (ty : TypeId) :
  ∃ e v w',K e ∧ (Builtin.copy_ (t :: ts).toArray ty (vx :: vy :: vs).toArray).run E.P w = .ok v w' ∧ Ext G w G w' ∧ Inv G w' ∧ FRel G w' (a.put d v) (st.eff d e) := by
 unfold vcCopy at h
 split at h
 ·rename_i e _ _ _ i off len cap sz l hT
  split at h
  ·rename_i ei cells hTe hl
   obtain ⟨⟨rfl,rfl,hle⟩,hk⟩ := h
   obtain ⟨dd,hu,hdd⟩ := (hE _ _ hT).desc
   cases dd <;> simp only [descOk] at hdd
   subst hdd
   have hsz := (hE _ _ hTe).size w
   obtain ⟨hlc,off',rfl,hoff⟩ := hx
   obtain ⟨cs,hrow,hfl,hfc,hlen,hml⟩ := slice_row (srep_v hy)
   have hf1 := hfc E.P w (fun _ => rfl)
   have hl1 := hlen E.P w
   obtain ⟨⟨k1,k2,k3,old,eo,hb,hrc⟩,k5⟩ := hf.loc i cells hl
   have hcl : cs.length = l.length * ei.size := hrow.1
   have hrcs : Reps G.com w (l.map AV.cells).flatten cs := hrow.flat
   have hol : old.length = cells.length := hrc.1.symm
   have hst : (storeCells ⟨β i,off',none⟩ cs).run E.P w = .ok () (w.setBlock' (β i) (.cells (writeAt old off cs).toArray eo (0,0))) := by
    rcases hoff with rfl | h0
    ·have := storeCells_run (P := E.P) (b := β i) (off := off') (e := eo) cs 0 w old hb (by rw [hcl,hol]; omega) (row_plain hrow hfl)
     simpa using this
    ·have hl0 : l.length = 0 := by omega
     have hc0 : cs = [] := by
      apply List.eq_nil_of_length_eq_zero
      rw [hcl,hl0,Nat.zero_mul]
     subst hc0
     have e1 : writeAt old off [] = old := by
      unfold writeAt; simp
     rw [e1]
     have e2 : w.setBlock' (β i) (.cells old.toArray eo (0,0)) = w := by
      unfold World.setBlock'
      have hlt := (Array.getElem?_eq_some_iff.1 hb)
      congr 1
      apply Array.ext_getElem?
      intro k
      by_cases hk : β i = k
      ·subst hk; simp [hb,hlt.1]; exact hlt.2.symm
      ·simp [Array.getElem?_setIfInBounds_ne hk]
     rw [e2]; rfl
   obtain ⟨h1,h2,h3⟩ := hf.set hi hl (e := eo) (hrc.overlay hrcs off) none (fun t ht => by cases ht)
   have h3' : FRelB G _ β R a { st with loc := upd st.loc i (some (overlay cells off (l.map AV.cells).flatten)) } := h3
   refine ⟨_,.int .i64 l.length,_,hk,?_,h1,h2,β,R,h3'.put (d := d) (x := .v (.int .i64 l.length)) hd (.int _ _) (fun _ h => h.elim)⟩
   simp [Builtin.copy_,Sem.run_bind,run_underlying hu,Result.andThen_ok,hl1,hsz,hf1,hst,goInt]
  ·exact h.elim
 ·exact h.elim
end
end Go.Proofs.YtdmejgfcaacdoaaGreat.Abs
/- The abstract machine,part 13: 'ev' is sound. -/
namespace Go.Proofs.YtdmejgfcaacdoaaGreat.Abs
set_option linter.unusedSimpArgs false
open Go Go.RowKit
section
variable {E : Env} {G : Gh} {w : World} {β : Nat → Nat} {R : Nat → Role} {a : Act} {st : St}
theorem zip_head {T : TypeId → Option TyI} {ts : List TypeId} {xs : List Operand} {t : TypeId} {tr : List TypeId} {x : SV} {xr : List SV}
  (h1 : ts = t :: tr) (h2 : ((ts.zip xs).map fun p => st.sv T p.1 p.2) = x :: xr) : ∃ y ys,xs = y :: ys ∧ x = st.sv T t y ∧ xr = (tr.zip ys).map fun p => st.sv T p.1 p.2 := by
 subst h1
 cases xs with
 | nil => simp at h2
 | cons y ys =>
  simp only [List.zip_cons_cons,List.map_cons,List.cons.injEq] at h2
  exact ⟨y,ys,rfl,h2.1.symm,h2.2.symm⟩
theorem builtin_sound (hE : EnvOk E) {o : Oper} {c : Call} (hop : o.op = .call c) {b : Builtin} (hcb : c.callee = .builtin b) {K : Eff → Prop} (hdst : o.dst.isSome = true)
  (h : vcBuiltin E b c.argTypes.toList ((c.argTypes.toList.zip c.args.toList).map fun p => st.sv E.T p.1 p.2) (c.args.toList.map (st.sv E.T 0)) (c.args.toList.map st.ow) st.loc K)
  (hi : Inv G w) (hf : FRelB G w β R a st) (hd : ∀ t,o.dst = some t → t < a.tmps.size) :
  ∃ e,K e ∧ OpOk E.P o a w G ((st.takeO (takes o)).eff o.dst e) := by
 have hrun0 : ∀ v w',(builtin b c.argTypes o.type (c.args.map fun | .const _ => true | _ => false) (c.args.map a.eval)).run E.P w = .ok v w' → (execOp a.eval o).run E.P w = .ok v w' := by
  intro v w' h
  unfold execOp
  simp only [hop,resolve,hcb,Sem.run_bind,Sem.run_pure,Result.andThen_ok,invoke]
  exact h
 unfold vcBuiltin at h
 split at h
 ·-- len
  have htk : takes o = none := by simp [takes,hop,hcb]
  rw [htk]
  split at h
  ·rename_i t tr x xr hts hxs
   obtain ⟨y,ys,hys,rfl,_⟩ := zip_head hts hxs
   obtain ⟨r,z,hk,hz,hr⟩ := vcLenT_sound hE h (hf.eval E.T t y) tr (ys.map a.eval) o.type
   refine ⟨_,hk,opOk_av hf hi hd hz (hrun0 _ _ ?_)⟩
   have e1 : c.argTypes = (t :: tr).toArray := by rw [← hts]
   have e2 : c.args.map a.eval = (a.eval y :: ys.map a.eval).toArray := by
    apply Array.ext'
    simp [hys]
   rw [e1,e2]
   simp [builtin,hr]
  ·exact h.elim
 ·-- append
  obtain ⟨d,hdd⟩ := Option.isSome_iff_exists.1 hdst
  split at h
  ·rename_i t t2 tr s x xr ow0 owr hts hxs hos
   obtain ⟨y,ys,hys,rfl,hxs'⟩ := zip_head hts hxs
   obtain ⟨y2,ys2,hys2,rfl,_⟩ := zip_head (ts := t2 :: tr) rfl hxs'.symm
   subst hys2
   have htk : takes o = some y := by simp [takes,hop,hcb,hys]
   have how : ow0 = st.ow y := by
    rw [hys] at hos
    simp only [List.map_cons,List.cons.injEq] at hos
    exact hos.1.symm
   subst how
   rw [htk,hdd]
   obtain ⟨r,z,w',G',hk,hr,hx,hi',hfr⟩ := append_sound hE hi hf (hd d hdd) h (hf.eval E.T t y) (hf.eval E.T t2 y2) o.type (fun ho => by
    cases y with
    | tmp t' => exact .inr ⟨t',ho,rfl,rfl⟩
    | const v =>
     refine .inl ?_
     simp only [St.ow] at ho
     split at ho
     ·rename_i e; cases e
     ·rename_i e; cases e; rfl
     ·simp at ho
    | global g => simp [St.ow] at ho
    | func f => simp [St.ow] at ho)
   refine ⟨_,hk,z,w',G',.inl (hrun0 _ _ ?_),hx,hi',?_⟩
   ·have e1 : c.argTypes = (t :: t2 :: tr).toArray := by rw [← hts]
    have e2 : c.args.map a.eval = (a.eval y :: a.eval y2 :: ys2.map a.eval).toArray := by
     apply Array.ext'
     simp [hys]
    have e3 : (Builtin.append_ c.argTypes o.type (c.args.map a.eval)) = Builtin.append_ #[t,t2] o.type #[a.eval y,a.eval y2] := by
     rw [e1,e2]
     unfold Builtin.append_
     simp
    simp [builtin,e3,hr]
   ·have how : st.ow y = true := by
     unfold vcAppend at h
     split at h
     ·split at h
      ·exact h.1.1
      ·exact h.elim
     ·exact h.elim
    rw [hdd] at *
    cases y with
    | tmp t' =>
     exact hfr t' (.inr ⟨how,rfl,rfl⟩)
    | const v =>
     have hv : v = .slice none 0 0 := by
      simp only [St.ow] at how
      split at how
      ·rename_i e; cases e
      ·rename_i e; cases e; rfl
      ·simp at how
     have := hfr d (.inl hv)
     rw [put_disowned] at this
     exact this
    | global g => simp [St.ow] at how
    | func f => simp [St.ow] at how
  ·exact h.elim
 ·-- copy
  have htk : takes o = none := by simp [takes,hop,hcb]
  rw [htk]
  split at h
  ·rename_i t tr x y xr hts hxs
   obtain ⟨z,zs,hzs,rfl,hxs'⟩ := zip_head hts hxs
   rcases tr with _ | ⟨t2,tr⟩
   ·simp at hxs'
   ·obtain ⟨z2,zs2,hzs2,rfl,_⟩ := zip_head (ts := t2 :: tr) rfl hxs'.symm
    subst hzs2
    obtain ⟨e,v,w',hk,hr,h1,h2,h3⟩ := copy_sound hE hf hi h (hf.eval E.T t z) (hf.eval E.T t2 z2) hd (t2 :: tr) (zs2.map a.eval) o.type
    refine ⟨_,hk,v,w',G,.inl (hrun0 _ _ ?_),h1,h2,h3⟩
    have e1 : c.argTypes = (t :: t2 :: tr).toArray := by rw [← hts]
    have e2 : c.args.map a.eval = (a.eval z :: a.eval z2 :: zs2.map a.eval).toArray := by
     apply Array.ext'
     simp [hzs]
    rw [e1,e2]
    simp [builtin,hr]
  ·exact h.elim
 ·-- min
  have htk : takes o = none := by simp [takes,hop,hcb]
  rw [htk]
  unfold vcMinMax at h
  split at h
  ·rename_i k m k' n hb hxs
   obtain ⟨rfl,h⟩ := h
   obtain ⟨v1,v2,hv⟩ : ∃ y y2,c.args.toList = [y,y2] := by
    rcases hl : c.args.toList with _ | ⟨y,_ | ⟨y2,_ | _⟩⟩ <;> rw [hl] at hxs <;> simp at hxs
    exact ⟨_,_,rfl⟩
   rw [hv] at hxs
   simp only [List.map_cons,List.map_nil,List.cons.injEq,and_true] at hxs
   have h1 := hf.eval E.T 0 v1
   have h2 := hf.eval E.T 0 v2
   rw [hxs.1] at h1
   rw [hxs.2] at h2
   refine ⟨_,h,opOk_av hf hi hd (.int _ _) (hrun0 _ _ ?_)⟩
   have e2 : c.args.map a.eval = #[.int k m,.int k n] := by
    apply Array.ext'
    simp [hv,rep_int (srep_v h1),rep_int (srep_v h2)]
   rw [e2]
   simp only [builtin,Builtin.min_,List.foldlM_cons,List.foldlM_nil,Builtin.min2,Sem.run_bind,Sem.run_pure,Result.andThen_ok]
   congr 3
   rw [Int.min_def]
   by_cases e : n < m
   ·rw [if_pos e,if_neg (by omega)]
   ·rw [if_neg e,if_pos (by omega)]
  ·rename_i hb _; exact absurd hb (by simp)
  ·exact h.elim
 ·-- max
  have htk : takes o = none := by simp [takes,hop,hcb]
  rw [htk]
  unfold vcMinMax at h
  split at h
  ·rename_i hb _; exact absurd hb (by simp)
  ·rename_i k m k' n hb hxs
   obtain ⟨rfl,h⟩ := h
   obtain ⟨v1,v2,hv⟩ : ∃ y y2,c.args.toList = [y,y2] := by
    rcases hl : c.args.toList with _ | ⟨y,_ | ⟨y2,_ | _⟩⟩ <;> rw [hl] at hxs <;> simp at hxs
    exact ⟨_,_,rfl⟩
   rw [hv] at hxs
   simp only [List.map_cons,List.map_nil,List.cons.injEq,and_true] at hxs
   have h1 := hf.eval E.T 0 v1
   have h2 := hf.eval E.T 0 v2
   rw [hxs.1] at h1
   rw [hxs.2] at h2
   refine ⟨_,h,opOk_av hf hi hd (.int _ _) (hrun0 _ _ ?_)⟩
   have e2 : c.args.map a.eval = #[.int k m,.int k n] := by
    apply Array.ext'
    simp [hv,rep_int (srep_v h1),rep_int (srep_v h2)]
   rw [e2]
   simp only [builtin,Builtin.max_,List.foldlM_cons,List.foldlM_nil,Builtin.max2,Sem.run_bind,Sem.run_pure,Result.andThen_ok]
   congr 3
   rw [Int.max_def]
   by_cases e : n > m
   ·rw [if_pos e,if_pos (by omega)]
   ·rw [if_neg e]; by_cases e2 : m ≤ n
    ·rw [if_pos e2]; omega
    ·rw [if_neg e2]
  ·exact h.elim
 ·exact h.elim
theorem move_sound {dst : Option Tmp} {type : TypeId} {pos : String} {after : Array Edge} {guard : Option (Nat × Bool)} {op : Op} {x : Operand} {T : TypeId → Option TyI} {P : Program} (hi : Inv G w) (hf : FRelB G w β R a st)
  (hd : ∀ t,dst = some t → t < a.tmps.size) (hrun : (execOp a.eval ⟨dst,op,type,pos,after,guard⟩).run P w = .ok (.value (a.eval x)) w) :
  OpOk P ⟨dst,op,type,pos,after,guard⟩ a w G ((st.take x).eff dst (.put (st.sv T type x) (st.ow x && isSlice (st.sv T type x)))) := by
 refine ⟨_,w,G,.inl hrun,Ext.refl _ _,hi,?_⟩
 have hv := hf.eval T type x
 have hrf := hf.refs T type x
 cases x with
 | tmp t =>
  cases ho : st.own t with
  | false =>
   have e : (st.ow (.tmp t) && isSlice (st.sv T type (.tmp t))) = false := by simp [St.ow,ho]
   rw [e]
   exact ⟨β,R,(hf.disown t).put hd hv hrf⟩
  | true =>
   obtain ⟨sz,l,e,_⟩ := hf.own t ho
   have e : (st.ow (.tmp t) && isSlice (st.sv T type (.tmp t))) = true := by simp [St.ow,ho,St.sv,e,isSlice]
   rw [e]
   cases dst with
   | none => exact ⟨β,R,hf.disown t⟩
   | some d => exact hf.moveOwn (hd d rfl) ho
 | const v =>
  by_cases e : (st.ow (.const v) && isSlice (st.sv T type (.const v))) = true
  ·rw [e]
   rw [Bool.and_eq_true] at e
   have hnil : v = .slice none 0 0 := by
    have h := e.1
    simp only [St.ow] at h
    split at h
    ·rename_i e'; cases e'
    ·rename_i e'; cases e'; rfl
    ·simp at h
   have hsl := e.2
   cases dst with
   | none => exact ⟨β,R,hf⟩
   | some d =>
    refine ⟨β,R,hf.putOwn (hd d rfl) hv hrf ?_ (fun b _ => rfl) hf.rlt⟩
    cases hc : st.sv T type (.const v) with
    | v y =>
     rw [hc] at hsl
     cases y <;> simp [isSlice] at hsl
     exact ⟨_,_,rfl,.inl hnil⟩
    | loc i off => rw [hc] at hsl; simp [isSlice] at hsl
    | lslice i off len cap => rw [hc] at hsl; simp [isSlice] at hsl
  ·have e : (st.ow (.const v) && isSlice (st.sv T type (.const v))) = false := by simpa using e
   rw [e]
   exact ⟨β,R,hf.put hd hv hrf⟩
 | global g => exact ⟨β,R,hf.put hd hv hrf⟩
 | func f => exact ⟨β,R,hf.put hd hv hrf⟩
theorem pick_run {P : Program} {dst : Option Tmp} {type : TypeId} {pos : String} {after : Array Edge} {guard : Option (Nat × Bool)} {c x y : Operand} {z : Value}
  (hr : (do pure (if ← asBool (a.eval c) then a.eval x else a.eval y) : Sem Value).run P w = .ok z w) : (execOp a.eval ⟨dst,.pick c x y,type,pos,after,guard⟩).run P w = .ok (.value z) w := by
 simp only [execOp,Sem.run_bind] at hr ⊢
 cases hb : (asBool (a.eval c)).run P w with
 | ok b w' =>
  rw [hb] at hr
  simp only [Result.andThen_ok,Sem.run_pure,Result.ok.injEq] at hr ⊢
  obtain ⟨h1,h2⟩ := hr
  subst h2
  rw [← h1]
  exact ⟨rfl,rfl⟩
 | halt h w' => rw [hb] at hr; simp [Result.andThen] at hr
theorem ev_sound (hE : EnvOk E) {o : Oper} {K : Eff → Prop} (h : ev E o (st.sv E.T) st.ow st.loc st.mem K) (hi : Inv G w) (hf : FRelB G w β R a st) (hd : ∀ t,o.dst = some t → t < a.tmps.size) :
  ∃ e,K e ∧ OpOk E.P o a w G ((st.takeO (takes o)).eff o.dst e) := by
 obtain ⟨dst,op,type,pos,after,guard⟩ := o
 have sv := fun ty x => hf.eval E.T ty x
 have rf := fun ty x i => hf.refs E.T ty x i
 unfold ev at h
 cases op <;> simp only at h
 case move x =>
  refine ⟨_,h,?_⟩
  have hrun : (execOp a.eval ⟨dst,.move x,type,pos,after,guard⟩).run E.P w = .ok (.value (a.eval x)) w := by simp [execOp]
  exact move_sound hi hf hd hrun
 case assign x =>
  refine ⟨_,h,?_⟩
  have hrun : (execOp a.eval ⟨dst,.assign x,type,pos,after,guard⟩).run E.P w = .ok (.value (a.eval x)) w := by simp [execOp]
  exact move_sound hi hf hd hrun
 case pick c x y =>
  obtain ⟨r,z,hk,hz,hrf,hr⟩ := vcPick_sound h (sv 0 c) (sv type x) (sv type y) (rf _ _) (rf _ _) E.P
  exact ⟨_,hk,opOk_value hf hi hd hz hrf (pick_run hr)⟩
 case alloc t =>
  split at h
  ·exact h.elim
  ·rename_i d
   split at h
   ·rename_i i hH hT
    obtain ⟨hl,hk⟩ := h
    obtain ⟨zv,hz,hzr⟩ := (hE t i hT).zero
    have hc := rep_cells (hzr G.com w) (hE t i hT).zc.2.1
    rw [(hE t i hT).zc.1] at hc
    have h0 : G.com w.heap.size = 0 := hi.com_new (Nat.le_refl _)
    obtain ⟨hx,hi'⟩ := alloc_grow hi (.cells zv.cells.toList.toArray t (0,0)) 0 (fun h => absurd rfl h)
    rw [setCom_zero G h0] at hx hi'
    refine ⟨_,hk,_,_,G,.inl ?_,hx,hi',hf.new hi (hd d rfl) hl hc t none⟩
    simp [execOp,Instr.alloc,Sem.run_bind,hz,newVar,newRow]
   ·rename_i i hH hT
    obtain ⟨zv,hz,hzr⟩ := (hE t i hT).zero
    have hc := rep_cells (hzr G.com w) (hE t i hT).zc.2.1
    rw [(hE t i hT).zc.1] at hc
    obtain ⟨h1,h2,h3,h4⟩ := hf.fresh hi (d := some d) hd (o := .cells zv.cells.toList.toArray t (0,0)) (x := .ptr w.heap.size 0) (v := .pointer (some ⟨w.heap.size,0,none⟩)) (y := .cells i.zero)
     (fun w' hw hx => ⟨_,_,hw,hc.ext hx⟩) (fun _ _ => .ptr _ _)
    refine ⟨_,h _ h1,_,_,G,.inl ?_,h2,h3,h4⟩
    simp [execOp,Instr.alloc,Sem.run_bind,hz,newVar,newRow]
   ·exact h.elim
 case box t x =>
  split at h
  ·rename_i d y hy
   have hxr := sv t x
   rw [hy] at hxr
   obtain ⟨hkn,h⟩ := h
   have hc := rep_cells (srep_v hxr) hkn
   split at h
   ·have hcc : y.cells.length ≠ 0 → ∃ cs' e' fz,(Obj.cells (a.eval x).cells t (0,0)) = .cells cs' e' fz ∧ y.cells.length ≤ cs'.size := fun _ => ⟨_,_,_,rfl,by rw [hc.1]; simp⟩
    obtain ⟨hx,hi'⟩ := alloc_grow hi (.cells (a.eval x).cells t (0,0)) y.cells.length hcc
    have hfr := hf.alloc hi (.cells (a.eval x).cells t (0,0)) y.cells.length hcc
    refine ⟨_,h,_,_,_,.inl ?_,hx,hi',β,R,hfr.put (x := .v (.eptr y.cells)) (v := .pointer (some ⟨w.heap.size,0,none⟩)) (fun t ht => hd t ht) ?_ (fun _ h => h.elim)⟩
    ·simp [execOp,Instr.box,newVar,newRow]
    ·refine .eptr _ _ 0 (fun i => (a.eval x).cells.toList.getD i undef) (by simp [Gh.setCom,upd_same]) (fun i hi => ?_) (fun j z hj => ?_)
     ·have hb := heap_alloc_new w (.cells (a.eval x).cells.toList.toArray t (0,0))
      have := cell_block hb (0 + i)
      have hlt : i < (a.eval x).cells.toList.length := by rw [← hc.1]; exact hi
      simp only [Nat.zero_add] at this ⊢
      rw [show (a.eval x).cells = (a.eval x).cells.toList.toArray by simp,this]
      simp at hlt
      simp [hlt]
     ·have hlt : j < (a.eval x).cells.toList.length := by rw [← hc.1]; exact (List.getElem?_eq_some_iff.1 hj).1
      have := hc.2 j z _ hj (List.getElem?_eq_getElem hlt)
      have e : (a.eval x).cells.toList.getD j undef = (a.eval x).cells.toList[j] := by rw [List.getD_eq_getElem?_getD,List.getElem?_eq_getElem hlt]; rfl
      rw [e]; exact this.ext hx
   ·obtain ⟨hl,hk⟩ := h
    have h0 : G.com w.heap.size = 0 := hi.com_new (Nat.le_refl _)
    obtain ⟨hx,hi'⟩ := alloc_grow hi (.cells (a.eval x).cells.toList.toArray t (0,0)) 0 (fun h => absurd rfl h)
    rw [setCom_zero G h0] at hx hi'
    refine ⟨_,hk,_,_,G,.inl ?_,hx,hi',hf.new hi (hd d rfl) hl hc t none⟩
    simp [execOp,Instr.box,newVar,newRow]
   ·obtain ⟨h1,h2,h3,h4⟩ := hf.fresh hi (d := some d) hd (o := .cells (a.eval x).cells.toList.toArray t (0,0)) (x := .ptr w.heap.size 0) (v := .pointer (some ⟨w.heap.size,0,none⟩)) (y := .cells y.cells)
     (fun w' hw hx => ⟨_,_,hw,hc.ext hx⟩) (fun _ _ => .ptr _ _)
    refine ⟨_,h _ h1,_,_,G,.inl ?_,h2,h3,h4⟩
    simp [execOp,Instr.box,newVar,newRow]
  ·exact h.elim
 case build t parts =>
  obtain ⟨r,z,hk,hz,hr⟩ := vcBuild_sound hE h (vals := parts.map fun (i,x) => (i,a.eval x)) (by simp) (parts_srep hf E.T _ parts)
  exact ⟨_,hk,opOk_av hf hi hd hz (by simp [execOp,hr])⟩
 case buildSlice t len parts =>
  obtain ⟨hds,h⟩ := h
  obtain ⟨d,hdd⟩ := Option.isSome_iff_exists.1 hds
  subst hdd
  obtain ⟨sz,l,cs,e,hk,hrow,hfl,rfl,hlm,hr⟩ := vcBuildSlice_sound hE h (vals := parts.map fun (i,x) => (i,a.eval x)) (by simp) (parts_srep hf E.T _ parts)
  obtain ⟨hx,hi',hfr⟩ := hf.putRow hi (hd d rfl) (sz := sz) (l := l) (cs := cs) e (cap := l.length) (by rw [← hrow.1,List.take_length]; exact hrow) hfl (Nat.le_refl _) hlm (by rw [hrow.1]; exact Nat.le_refl _)
  exact ⟨_,hk,_,_,_,.inl (by simp [execOp,hr]),hx,hi',hfr⟩
 case load t x =>
  obtain ⟨r,z,hk,hz,hr⟩ := vcLoad_sound hE hf h (sv 0 x)
  exact ⟨_,hk,opOk_av hf hi hd hz (by simp [execOp,hr])⟩
 case store t p x =>
  have hp := sv 0 p
  have hx := sv t x
  unfold vcStore at h
  split at h
  ·rename_i i off y hpe hxe
   rw [hpe] at hp; rw [hxe] at hx
   split at h
   ·rename_i l hl
    obtain ⟨⟨k1,k2,k3,cs,e,hb,hrc⟩,k5⟩ := hf.loc i l hl
    obtain ⟨l',cs',hk,hr',_,hrun⟩ := storeVar_sound hE h (srep_v hx) hb hrc
    obtain ⟨hxx,hii,hfr⟩ := hf.set hi hl (e := e) hr' dst hd
    have ep : a.eval p = .pointer (some ⟨β i,off,none⟩) := hp
    refine ⟨_,hk,undef,_,G,.inr ⟨?_,rfl⟩,hxx,hii,β,R,hfr⟩
    simp [execOp,Instr.storeAt,Instr.sureAddr,ep,hrun]
   ·exact h.elim
  ·rename_i b off y hpe hxe
   rw [hpe] at hp; rw [hxe] at hx
   split at h
   ·rename_i l hl
    obtain ⟨k1,k2,k3,k4,cs,e,hb,hrc⟩ := hf.mem b _ hl
    obtain ⟨l',cs',hk,hr',_,hrun⟩ := storeVar_sound hE h (srep_v hx) hb hrc
    obtain ⟨hxx,hii,hfr⟩ := hf.mset hi hl (o := .cells cs'.toArray e (0,0)) (y := .cells l') (fun w' hw' hx' => ⟨cs',e,hw',hr'.ext hx'⟩) dst hd
    refine ⟨_,hk,undef,_,G,.inr ⟨?_,rfl⟩,hxx,hii,β,R,hfr⟩
    simp [execOp,Instr.storeAt,Instr.sureAddr,rep_ptr (srep_v hp),hrun]
   ·exact h.elim
  ·exact h.elim
 case nilCheck x =>
  obtain ⟨hk,hv⟩ := vcNil_sound h (sv 0 x)
  refine ⟨_,hk,opOk_value hf hi hd (sv 0 x) (rf 0 x) ?_⟩
  rcases hv with ⟨p,hv⟩ | ⟨f,fs,cs,hv⟩
  ·simp [execOp,hv]
  ·simp [execOp,hv]
 case binOp op t x y yt =>
  obtain ⟨r,z,hk,hz,hr⟩ := vcBin_sound hE h (sv t x) (sv yt y) x y
  refine ⟨_,hk,opOk_av hf hi hd hz ?_⟩
  simp only [execOp,Sem.run_bind] at hr ⊢
  rw [hr]; rfl
 case unOp op t x =>
  obtain ⟨r,z,hk,hz,hr⟩ := vcUn_sound h (sv t x) E.P
  exact ⟨_,hk,opOk_av hf hi hd hz (by simp [execOp,hr])⟩
 case convert s d x =>
  obtain ⟨r,z,hk,hz,hr⟩ := vcConvert_sound hE h (sv s x)
  exact ⟨_,hk,opOk_av hf hi hd hz (by simp [execOp,hr])⟩
 case makeFunc f first caps =>
  cases hfs : avs (first.toList.map (st.sv E.T 0)) with
  | none => rw [hfs] at h; exact h.elim
  | some fs =>
   rw [hfs] at h
   cases hcs : avs (caps.toList.map (st.sv E.T 0)) with
   | none => rw [hcs] at h; exact h.elim
   | some cs =>
    rw [hcs] at h
    have r1 := avs_sound _ fs (first.toList.map a.eval) hfs (by simp) (map_srep hf E.T 0 first.toList)
    have r2 := avs_sound _ cs (caps.toList.map a.eval) hcs (by simp) (map_srep hf E.T 0 caps.toList)
    refine ⟨_,h,opOk_av hf hi hd (.fn f fs cs _ _ r1.1 r2.1 r1.2 r2.2) ?_⟩
    have e1 : first.map a.eval = (first.toList.map a.eval).toArray := by apply Array.ext'; simp
    have e2 : caps.map a.eval = (caps.toList.map a.eval).toArray := by apply Array.ext'; simp
    simp [execOp,Instr.makeFunc,e1,e2]
 case makeSlice t n c =>
  split at h
  ·exact h.elim
  ·rename_i d
   split at h
   ·obtain ⟨l,k,cs,e,hk,hr,hrun⟩ := makeSlice_sound hE h (sv 0 n) (sv 0 c)
    obtain ⟨h1,h2,h3,h4⟩ := hf.fresh hi (d := some d) hd (o := .cells cs.toArray e (0,0)) (x := .mslice w.heap.size 0 k k) (v := .slice (some ⟨w.heap.size,0,none⟩) k k) (y := .cells l)
     (fun w' hw hx => ⟨_,_,hw,hr.ext hx⟩) (fun _ _ => .mslice _ _ _ _)
    exact ⟨_,hk _ h1,_,_,G,.inl (by simp [execOp,hrun]),h2,h3,h4⟩
   ·obtain ⟨hl,h⟩ := h
    obtain ⟨l,k,cs,e,hk,hr,hrun⟩ := makeSlice_sound hE h (sv 0 n) (sv 0 c)
    have h0 : G.com w.heap.size = 0 := hi.com_new (Nat.le_refl _)
    obtain ⟨hx,hi'⟩ := alloc_grow hi (.cells cs.toArray e (0,0)) 0 (fun h => absurd rfl h)
    rw [setCom_zero G h0] at hx hi'
    exact ⟨_,hk,_,_,G,.inl (by simp [execOp,hrun]),hx,hi',hf.new hi (hd d rfl) hl hr e (some k)⟩
 case makeMap t r =>
  split at h
  ·obtain ⟨h1,h2,h3,h4⟩ := hf.fresh hi (d := dst) hd (o := .map #[] 0) (x := .map w.heap.size) (v := .map (some w.heap.size)) (y := .map []) (fun w' hw hx => ⟨_,_,hw,rfl,fun i k x m hk => by simp at hk⟩) (fun _ _ => .map _)
   exact ⟨_,h _ h1,_,_,G,.inl (by simp [execOp,Instr.makeMap]),h2,h3,h4⟩
  ·exact h.elim
 case lookup t x k ok =>
  obtain ⟨r,z,hk,hz,hr⟩ := vcLookup_sound hE hf h (sv t x) (sv 0 k)
  exact ⟨_,hk,opOk_av hf hi hd hz (by simp [execOp,hr])⟩
 case mapUpdate t x k y =>
  obtain ⟨e,w',hk,hr,hx,hi',hfr⟩ := vcMapUpdate_sound hE hf hi h (sv t x) (sv 0 k) (sv 0 y) dst hd
  exact ⟨e,hk,undef,w',G,.inr ⟨by simp [execOp,hr],rfl⟩,hx,hi',β,R,hfr⟩
 case range t x =>
  obtain ⟨e,v,w',hk,hr,hx,hi',hfr⟩ := vcRange_sound hE hf hi h (sv t x) hd
  exact ⟨e,hk,v,w',G,.inl (by simp [execOp,hr]),hx,hi',hfr⟩
 case next x s =>
  obtain ⟨rfl,h⟩ := h
  obtain ⟨e,v,w',hk,hr,hx,hi',hfr⟩ := vcNext_sound hf hi h (sv 0 x) hd E.P type
  exact ⟨e,hk,v,w',G,.inl (by simp [execOp,hr]),hx,hi',hfr⟩
 case slice t x lo hi' mx =>
  obtain ⟨r,z,hk,hz,hrf,hr⟩ := sliceOp_sound (st := st) hE h (sv t x) (rf t x) (vlo := lo.map a.eval) (vhi := hi'.map a.eval) (vmx := mx.map a.eval) (fun x hx => optmap_some hf E.T lo x hx) (optmap_none E.T lo)
   (fun x hx => optmap_some hf E.T hi' x hx) (optmap_none E.T hi') (optmap_none E.T mx)
  exact ⟨_,hk,opOk_value hf hi hd hz hrf (by simp [execOp,hr])⟩
 case fieldAddr s x f =>
  obtain ⟨r,z,hk,hz,hrf,hr⟩ := vcFieldAddr_sound (st := st) hE h (sv 0 x) (rf 0 x)
  exact ⟨_,hk,opOk_value hf hi hd hz hrf (by simp [execOp,hr])⟩
 case field s x f =>
  obtain ⟨r,z,hk,hz,hr⟩ := vcField_sound hE h (sv s x)
  exact ⟨_,hk,opOk_av hf hi hd hz (by simp [execOp,hr])⟩
 case indexAddr t x i =>
  obtain ⟨r,z,hk,hz,hrf,hr⟩ := vcIndexAddr_sound (st := st) hE h (sv t x) (sv 0 i) (rf t x)
  exact ⟨_,hk,opOk_value hf hi hd hz hrf (by simp [execOp,hr])⟩
 case index t x i =>
  obtain ⟨r,z,hk,hz,hr⟩ := vcIndex_sound hE h (sv t x) (sv 0 i)
  exact ⟨_,hk,opOk_av hf hi hd hz (by simp [execOp,hr])⟩
 case extract x i =>
  obtain ⟨r,z,hk,hz,hr⟩ := vcExtract_sound h (sv 0 x) E.P
  exact ⟨_,hk,opOk_av hf hi hd hz (by simp [execOp,hr])⟩
 case call c =>
  split at h
  ·rename_i b hb
   exact builtin_sound hE (o := ⟨dst,.call c,type,pos,after,guard⟩) rfl hb h.1 h.2 hi hf hd
  ·exact h.elim
end
end Go.Proofs.YtdmejgfcaacdoaaGreat.Abs
/- The abstract machine,part 14: calls,guards,regions in the order of the text. -/
namespace Go.Proofs.YtdmejgfcaacdoaaGreat.Abs
set_option linter.unusedSimpArgs false
open Go Go.RowKit
structure ExtL (G : Gh) (w : World) (G' : Gh) (w' : World) : Prop where
 z : G'.z = G.z
 lock : ∀ b,G.lock b → G'.lock b
 size : w.heap.size ≤ w'.heap.size
 com : ∀ b,G.com b ≤ G'.com b
 cell : ∀ b i,i < G.com b → w'.cell? ⟨b,i,none⟩ = w.cell? ⟨b,i,none⟩
 held : ∀ b,G.lock b → w'.heap[b]? = w.heap[b]? ∧ G'.com b = G.com b
theorem Ext.toL {G G' : Gh} {w w' : World} (h : Ext G w G' w') : ExtL G w G' w' := ⟨h.z,fun b hb => by rw [h.lock]; exact hb,h.size,h.com,h.cell,h.held⟩
theorem ExtL.refl (G : Gh) (w : World) : ExtL G w G w := (Ext.refl G w).toL
theorem ExtL.trans {G G' G'' : Gh} {w w' w'' : World} (h : ExtL G w G' w') (k : ExtL G' w' G'' w'') : ExtL G w G'' w'' where
 z := k.z.trans h.z
 lock b hb := k.lock b (h.lock b hb)
 size := Nat.le_trans h.size k.size
 com b := Nat.le_trans (h.com b) (k.com b)
 cell b i hi := (k.cell b i (Nat.lt_of_lt_of_le hi (h.com b))).trans (h.cell b i hi)
 held b hb := by
  obtain ⟨h1,h2⟩ := h.held b hb
  obtain ⟨k1,k2⟩ := k.held b (h.lock b hb)
  exact ⟨k1.trans h1,k2.trans h2⟩
def fen : Option Nat → Fence
 | none => Fence.wide
 | some l => Fence.wide.inRound l
theorem fen_fn (r : Option Nat) (f : FuncId) : (fen r).fn f := by cases r <;> trivial
theorem fen_depth (r : Option Nat) {p : Prop} : (fen r).depth.isSome = true → p := by cases r <;> intro h <;> cases h
theorem calls_fen {r : Option Nat} {n : Nat} {P : Program} {f : FuncId} {args : Array Value} {w : World} {R : Ending → World → Prop} (h : Calls P f args w R) : CallsIn (fen r) n P f args w R := by
 cases r with
 | none => exact callsIn_wide.2 h
 | some l => exact CallsIn.inRound l (callsIn_wide.2 h)
theorem round_fen {r : Option Nat} {n : Nat} {P : Program} {l : Nat} {f : FuncId} {tmps : Array Value} {assign body : Code} {w : World} {R : Ending → World → Prop} (h : RoundIn Fence.wide 0 P l f tmps assign body w R) :
  RoundIn (fen r) n P l f tmps assign body w R := by
 cases r with
 | none => exact ⟨h.1,fun c cs _ => h.2 c cs (room_wide _)⟩
 | some k => exact ⟨h.1,fun c cs _ => h.2 c cs (room_wide _)⟩
theorem oper_in {r : Option Nat} {P : Program} {o : Oper} {a : Act} {w : World} {next : Act → World → Prop} {Q : Exit → Act → World → Prop} (hd : ∀ c,o.op ≠ .defer c) (h : o.uponIn (fen r) 0 P a next Q ((execOp a.eval o).run P w)) :
  o.wpIn (fen r) 0 P a w next Q := ⟨fun _ _ => fen_fn r _,by rw [Oper.semAt_plain _ _ _ hd]; exact h⟩
def Sat (n : Nat) (G : Gh) (w : World) (K : Exit → St → Prop) (e : Exit) (a' : Act) (w' : World) : Prop :=
 ∃ G' st',ExtL G w G' w' ∧ Inv G' w' ∧ FRel G' w' a' st' ∧ a'.tmps.size = n ∧ K e st'
def AWp (E : Env) (n : Nat) (c : Code) (K : Exit → St → Prop) (st : St) : Prop :=
 ∀ (r : Option Nat),r.isSome = E.rd → ∀ (G : Gh) (w : World) (a : Act),Inv G w → FRel G w a st → a.tmps.size = n → c.wpIn (fen r) 0 E.P (Sat n G w K) a w
section
variable {E : Env} {G : Gh} {w : World} {β : Nat → Nat} {R : Nat → Role} {a : Act} {st : St}
theorem freeze_sound (hi : Inv G w) (hf : FRelB G w β R a st) (i : Nat) : ∃ G' R',Ext G w G' w ∧ Inv G' w ∧ FRelB G' w β R' a (st.freeze i) := by
 unfold St.freeze
 split
 ·exact ⟨G,R,Ext.refl _ _,hi,hf⟩
 ·rename_i l hl
  obtain ⟨⟨h1,h2,h3,cs,e,hb,hr⟩,h5⟩ := hf.loc i l hl
  have hlen : l.length = cs.length := hr.1
  have hlt := hf.rlt (β i) (by rw [h5]; simp)
  have hx : Ext G w (G.setCom (β i) l.length) w := by
   refine ⟨rfl,rfl,Nat.le_refl _,fun b => ?_,fun _ _ _ => rfl,fun b hb' => ⟨rfl,?_⟩⟩
   ·by_cases eb : b = β i
    ·subst eb; rw [h3]; exact Nat.zero_le _
    ·simp [Gh.setCom,upd_ne _ _ eb]
   ·have : b ≠ β i := by rintro rfl; exact h2 hb'
    simp [Gh.setCom,upd_ne _ _ this]
  have hii : Inv (G.setCom (β i) l.length) w := by
   refine ⟨hi.below,fun b hb' => ?_,hi.lock⟩
   by_cases eb : b = β i
   ·subst eb
    simp only [Gh.setCom,upd_same] at hb' ⊢
    exact ⟨_,_,_,hb,by simp [hlen]⟩
   ·simp only [Gh.setCom,upd_ne _ _ eb] at hb' ⊢
    exact hi.com b hb'
  have key : ∀ b,R b ≠ .loc i → (G.setCom (β i) l.length).com b = G.com b := fun b hb' => by
   have : b ≠ β i := by rintro rfl; exact hb' h5
   simp [Gh.setCom,upd_ne _ _ this]
  refine ⟨_,R,hx,hii,⟨hf.defers,fun s => ?_,fun s hs => ?_,fun j lj hj => ?_,fun s j hj => ?_,?_,hf.rmem,hf.rlt⟩⟩
  ·have hv := hf.vals s
   show SRep _ _ _ (match st.vals s with | .loc j off => _ | .lslice j off len cap => _ | .v x => _) _
   revert hv
   generalize st.vals s = x
   cases x with
   | v x => exact fun h => h.ext hx
   | loc j off =>
    intro h
    show SRep _ _ _ (if j = i then (if off ≤ l.length then .v (.eptr (l.drop off)) else .v .top) else .loc j off) _
    by_cases ej : j = i
    ·subst ej
     rw [if_pos rfl]
     by_cases ho : off ≤ l.length
     ·rw [if_pos ho]
      have ev : a.tmps.getD s undef = .pointer (some ⟨β j,off,none⟩) := h
      rw [ev]
      refine .eptr _ _ off (fun k => cs.getD (off + k) undef) (by simp [Gh.setCom,upd_same]; omega) (fun k hk => ?_) (fun k y hk => ?_)
      ·rw [cell_block hb]
       have : off + k < cs.length := by simp at hk; omega
       simp [this]
      ·rw [List.getElem?_drop] at hk
       have hk' : off + k < cs.length := by rw [← hlen]; exact (List.getElem?_eq_some_iff.1 hk).1
       exact (hr.2 _ y _ hk (by simp [hk'])).ext hx
     ·rw [if_neg ho]; exact .top _
    ·rw [if_neg ej]; exact h
   | lslice j off len cap =>
    intro h
    show SRep _ _ _ (if j = i then .v .top else .lslice j off len cap) _
    by_cases ej : j = i
    ·rw [if_pos ej]; exact .top _
    ·rw [if_neg ej]; exact h
  ·obtain ⟨sz,l',e',hv⟩ := hf.own s hs
   refine ⟨sz,l',by simp [e'],hv.imp id ?_⟩
   rintro ⟨b,len,cap,cs,el,k1,k2,k3,k4,k5,k6,k7,k8⟩
   exact ⟨b,len,cap,cs,el,k1,k2,k3,k4,k5,k6,by rw [key b (by rw [k8]; simp)]; exact k7,k8⟩
  ·by_cases ej : j = i
   ·subst ej; simp at hj
   ·simp only [ej,if_false] at hj
    obtain ⟨k1,k2⟩ := hf.loc j lj hj
    exact ⟨k1.ext hx rfl (key _ (by rw [k2]; intro e; cases e; exact ej rfl)),k2⟩
  ·have hrf := hf.ref s
   have hj' : ((match st.vals s with | .loc j off => if j = i then (if off ≤ l.length then .v (.eptr (l.drop off)) else .v .top) else .loc j off | .lslice j off len cap => if j = i then .v .top else .lslice j off len cap | .v x => .v x : SV)).refs j := hj
   revert hrf hj'
   generalize st.vals s = x
   cases x with
   | v x => exact fun _ h => h.elim
   | loc k off =>
    intro hrf hj
    simp only at hj
    by_cases ek : k = i
    ·rw [if_pos ek] at hj
     split at hj <;> exact hj.elim
    ·rw [if_neg ek] at hj
     have e : k = j := hj
     subst e
     simp [ek]; exact hrf k rfl
   | lslice k off len cap =>
    intro hrf hj
    simp only at hj
    by_cases ek : k = i
    ·rw [if_pos ek] at hj; exact hj.elim
    ·rw [if_neg ek] at hj
     have e : k = j := hj
     subst e
     simp [ek]; exact hrf k rfl
  ·exact hf.mem.ext hx fun b x hb' => ⟨rfl,key b (by rw [hf.rmem b x hb']; simp)⟩
theorem freezes_sound : ∀ (xs : List SV) {G : Gh} {R : Nat → Role} {st : St},Inv G w → FRelB G w β R a st → ∃ G' R',Ext G w G' w ∧ Inv G' w ∧ FRelB G' w β R' a (st.freezes xs)
 | [],G,R,st,hi,hf => ⟨G,R,Ext.refl _ _,hi,hf⟩
 | .v _ :: xs,G,R,st,hi,hf => freezes_sound xs hi hf
 | .lslice _ _ _ _ :: xs,G,R,st,hi,hf => freezes_sound xs hi hf
 | .loc i _ :: xs,G,R,st,hi,hf => by
  obtain ⟨G1,R1,h1,h2,h3⟩ := freeze_sound hi hf i
  obtain ⟨G2,R2,k1,k2,k3⟩ := freezes_sound xs h2 h3
  exact ⟨G2,R2,h1.trans k1,k2,k3⟩
theorem call_frame (hi : Inv G w) (hf : FRelB G w β R a st) : ∃ G1 : Gh,G1.com = G.com ∧ Inv G1 w ∧ MemRep G1 w st.mem ∧
  ∀ (w' : World) (m' : Mem) (G' : Gh),Ext G1 w G' w' → Inv G' w' → MemRep G' w' m' → ∃ G2 R',G2.com = G'.com ∧ Ext G w G2 w' ∧ Inv G2 w' ∧ FRelB G2 w' β R' a { st with mem := m' } := by
 let G1 : Gh := { G with lock := fun b => G.lock b ∨ (∃ s,R b = .own s) ∨ ∃ i,R b = .loc i }
 have hi1 : Inv G1 w := by
  refine ⟨hi.below,hi.com,fun b hb => ?_⟩
  rcases hb with hb | ⟨s,hb⟩ | ⟨i,hb⟩
  ·exact hi.lock b hb
  ·exact hf.rlt b (by rw [hb]; simp)
  ·exact hf.rlt b (by rw [hb]; simp)
 have hm1 : MemRep G1 w st.mem := by
  intro b x hb
  obtain ⟨m1,m2,m3,m4,m5⟩ := hf.mem b x hb
  have hrm := hf.rmem b x hb
  refine ⟨m1,m2,?_,m4,m5⟩
  rintro (hl | ⟨s,hl⟩ | ⟨i,hl⟩)
  ·exact m3 hl
  ·rw [hrm] at hl; cases hl
  ·rw [hrm] at hl; cases hl
 refine ⟨G1,rfl,hi1,hm1,?_⟩
 intro w' m' G' hx hi' hm'
 let G2 : Gh := { G' with lock := G.lock }
 have hx2 : Ext G w G2 w' := ⟨hx.z,rfl,hx.size,hx.com,hx.cell,fun b hb => hx.held b (.inl hb)⟩
 have hi2 : Inv G2 w' := by
  refine ⟨hi'.below,hi'.com,fun b hb => hi'.lock b ?_⟩
  rw [hx.lock]; exact .inl hb
 have hfree : ∀ b x,m' b = some x → (∀ s,R b ≠ .own s) ∧ ∀ i,R b ≠ .loc i := by
  intro b x hb
  obtain ⟨_,_,m3,_,_⟩ := hm' b x hb
  rw [hx.lock] at m3
  exact ⟨fun s hs => m3 (.inr (.inl ⟨s,hs⟩)),fun i hs => m3 (.inr (.inr ⟨i,hs⟩))⟩
 let R' : Nat → Role := fun b => if (m' b).isSome then .mem else R b
 have hR' : ∀ b,(∃ s,R b = .own s) ∨ (∃ i,R b = .loc i) → R' b = R b := by
  intro b hb
  show (if (m' b).isSome then Role.mem else R b) = R b
  cases hmb : m' b with
  | none => rfl
  | some x =>
   obtain ⟨f1,f2⟩ := hfree b x hmb
   rcases hb with ⟨s,hb⟩ | ⟨i,hb⟩
   ·exact absurd hb (f1 s)
   ·exact absurd hb (f2 i)
 have hlk : ∀ b,G2.lock b ↔ G.lock b := fun _ => Iff.rfl
 refine ⟨G2,R',rfl,hx2,hi2,⟨hf.defers.step hx2,fun s => ?_,fun s hs => ?_,fun i l hl => ?_,hf.ref,fun b x hb => ?_,fun b x hb => ?_,fun b hb => ?_⟩⟩
 ·have hv := hf.vals s
  revert hv
  show SRep _ _ _ (st.vals s) _ → SRep _ _ _ (st.vals s) _
  generalize st.vals s = x
  cases x with
  | v x => exact fun h => h.ext hx2
  | loc i off => exact id
  | lslice i off len cap => exact id
 ·obtain ⟨sz,l,e1,hv⟩ := hf.own s hs
  refine ⟨sz,l,e1,hv.imp id ?_⟩
  rintro ⟨b,len,cap,cs,el,k1,k2,k3,k4,k5,k6,k7,k8⟩
  obtain ⟨q1,q2⟩ := hx.held b (.inr (.inl ⟨s,k8⟩))
  exact ⟨b,len,cap,cs,el,k1,by rw [hx2.W0]; exact k2,k3,by rw [q1]; exact k4,k5,k6,by show G'.com b = _; rw [q2]; exact k7,by rw [hR' b (.inl ⟨s,k8⟩)]; exact k8⟩
 ·obtain ⟨⟨k1,k2,k3,k4⟩,k5⟩ := hf.loc i l hl
  obtain ⟨q1,q2⟩ := hx.held (β i) (.inr (.inr ⟨i,k5⟩))
  exact ⟨⟨by rw [hx2.W0]; exact k1,k2,by show G'.com _ = 0; rw [q2]; exact k3,k4.ext hx2 q1⟩,by rw [hR' _ (.inr ⟨i,k5⟩)]; exact k5⟩
 ·obtain ⟨m1,m2,m3,m4,m5⟩ := hm' b x hb
  rw [hx.lock] at m3
  exact ⟨m1,m2,fun hl => m3 (.inl hl),m4,m5⟩
 ·show (if (m' b).isSome then Role.mem else R b) = .mem
  rw [show m' b = some x from hb]; rfl
 ·by_cases hmb : (m' b).isSome
  ·obtain ⟨x,hx'⟩ := Option.isSome_iff_exists.1 hmb
   exact (hm' b x hx').2.1
  ·have : R' b = R b := if_neg hmb
   rw [this] at hb
   exact Nat.lt_of_lt_of_le (hf.rlt b hb) hx.size
theorem call_sound (hi : Inv G w) (hf : FRelB G w β R a st) {g : FuncId} {xs : List AV} {vs : List Value} {K : AV → Mem → Prop} (h : ACall E.P g xs st.mem K) (hr : Reps G.com w xs vs) :
  Calls E.P g vs.toArray w fun e w' => ∃ v r m' G' R',e = .returned v ∧ Ext G w G' w' ∧ Inv G' w' ∧ FRelB G' w' β R' a { st with mem := m' } ∧ Rep G'.com w' r v ∧ K r m' := by
 obtain ⟨G1,hc,hi1,hm1,fin⟩ := call_frame hi hf
 refine (h.2 G1 w vs hi1 hm1 (by rw [hc]; exact hr)).mono ?_
 rintro e w' ⟨v,r,m',G',rfl,hx,hi',hm',hrep,hK⟩
 obtain ⟨G2,R',hc2,k1,k2,k3⟩ := fin w' m' G' hx hi' hm'
 exact ⟨v,r,m',G2,R',rfl,k1,k2,k3,by rw [hc2]; exact hrep,hK⟩
theorem yield_sound (hi : Inv G w) (hf : FRelB G w β R a st) {l : Nat} {xs : List AV} {vs : List Value} {K : AV → Mem → Prop} (h : AYield E.P l xs st.mem K) (hr : Reps G.com w xs vs) :
  ∃ f tmps assign body,(Instr.yield l vs.toArray).run E.P w = .ok (.round l f tmps assign body) w ∧ RoundIn Fence.wide 0 E.P l f tmps assign body w fun e w' =>
   ∃ v r m' G' R',e = .returned v ∧ Ext G w G' w' ∧ Inv G' w' ∧ FRelB G' w' β R' a { st with mem := m' } ∧ Rep G'.com w' r v ∧ K r m' := by
 obtain ⟨G1,hc,hi1,hm1,fin⟩ := call_frame hi hf
 obtain ⟨f,tmps,assign,body,hy,hround⟩ := h.does G1 w vs hi1 hm1 (by rw [hc]; exact hr)
 refine ⟨f,tmps,assign,body,hy,hround.mono ?_⟩
 rintro e w' ⟨v,r,m',G',rfl,hx,hi',hm',hrep,hK⟩
 obtain ⟨G2,R',hc2,k1,k2,k3⟩ := fin w' m' G' hx hi' hm'
 exact ⟨v,r,m',G2,R',rfl,k1,k2,k3,by rw [hc2]; exact hrep,hK⟩
theorem zip_avs (hf : FRelB G w β R a st) {T : TypeId → Option TyI} : ∀ (ts : List TypeId) (xs : List Operand) (ys : List AV),ts.length = xs.length → avs ((ts.zip xs).map fun p => st.sv T p.1 p.2) = some ys →
  Reps G.com w ys (xs.map a.eval)
 | [],[],ys,_,h => by simp [avs] at h; subst h; exact Reps.nil
 | t :: ts,x :: xs,ys,hl,h => by
  simp only [List.zip_cons_cons,List.map_cons] at h
  cases hx : st.sv T t x with
  | v y =>
   rw [hx] at h
   simp only [avs,Option.map_eq_some_iff] at h
   obtain ⟨zs,hz,rfl⟩ := h
   have hxr := hf.eval T t x
   rw [hx] at hxr
   exact Reps.cons hxr (zip_avs hf ts xs zs (by simpa using hl) hz)
  | loc => rw [hx] at h; simp [avs] at h
  | lslice => rw [hx] at h; simp [avs] at h
 | [],_ :: _,_,hl,_ => by simp at hl
 | _ :: _,[],_,hl,_ => by simp at hl
end
end Go.Proofs.YtdmejgfcaacdoaaGreat.Abs
