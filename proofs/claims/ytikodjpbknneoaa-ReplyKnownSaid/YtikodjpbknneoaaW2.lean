/- Lemmas for the statements of this seat (W2): they hold without conditions beyond those that each one states. -/
import Derived.Test.YtikodjpbknneoaaW1
import Derived.MapKept
import Derived.Laws.RangeAny
import Derived.Deep.LoopGhost
import Derived.RangeFuncRecord
import Derived.RangeFuncIn
/- The abstract machine,part 12b: shared memory: new blocks,maps,walks over strings; copies. -/
namespace Go.Proofs.Ytikodjpbknneoaa.Abs
set_option linter.unusedSimpArgs false
open Go Go.RowKit
section
variable {E : Env} {G : Gh} {w : World} {β : Nat → Nat} {R : Nat → Role} {a : Act} {st : St}
theorem FRelB.fresh (h : FRelB G w β R a st) (hi : Inv G w) {d : Option Tmp} (hd : ∀ t,d = some t → t < a.tmps.size) {o : Obj} {x : AV} {v : Value} {y : Box}
  (hy : ∀ w',w'.heap[w.heap.size]? = some o → Ext G w G w' → BoxRep G.com w' w.heap.size y) (hx' : ∀ com w',Rep com w' x v) :
  st.mem w.heap.size = none ∧ Ext G w G (w.alloc o) ∧ Inv G (w.alloc o) ∧ FRel G (w.alloc o) (a.put d v) (st.eff d (.mput x w.heap.size y)) := by
 have hn : st.mem w.heap.size = none := by
  cases hm : st.mem w.heap.size with
  | none => rfl
  | some x => have := (h.mem _ x hm).2.1; omega
 have h0 : G.com w.heap.size = 0 := hi.com_new (Nat.le_refl _)
 obtain ⟨hx,hi'⟩ := alloc_grow hi o 0 (fun h => absurd rfl h)
 have hf := h.alloc hi o 0 (fun h => absurd rfl h)
 rw [setCom_zero G h0] at hx hi' hf
 have hfree : ∀ b,R b ≠ .free → b ≠ w.heap.size := fun b hb e => by have := h.rlt b hb; omega
 refine ⟨hn,hx,hi',?_⟩
 have hf2 : FRelB G (w.alloc o) β (upd R w.heap.size .mem) a { st with mem := upd st.mem w.heap.size (some y) } := by
  refine ⟨hf.defers,hf.vals,fun s hs => ?_,fun i l hl => ?_,hf.ref,fun b z hb => ?_,fun b z hb => ?_,fun b hb => ?_⟩
  ·obtain ⟨sz,l,e1,hv⟩ := hf.own s hs
   refine ⟨sz,l,e1,hv.imp id ?_⟩
   rintro ⟨b,len,cap,cs,el,h1,h2,h3,h4,h5,h6,h7,h8⟩
   exact ⟨b,len,cap,cs,el,h1,h2,h3,h4,h5,h6,h7,by rw [upd_ne _ _ (hfree b (by rw [h8]; simp))]; exact h8⟩
  ·obtain ⟨h1,h2⟩ := hf.loc i l hl
   exact ⟨h1,by rw [upd_ne _ _ (hfree _ (by rw [h2]; simp))]; exact h2⟩
  ·by_cases e : b = w.heap.size
   ·subst e
    simp only [upd_same,Option.some.injEq] at hb
    subst hb
    refine ⟨hi.below.size,by simp,fun hl => absurd (hi.lock _ hl) (Nat.lt_irrefl _),h0,hy _ (heap_alloc_new w o) hx⟩
   ·simp only [upd_ne _ _ e] at hb
    exact hf.mem b z hb
  ·by_cases e : b = w.heap.size
   ·subst e; rw [upd_same]
   ·simp only [upd_ne _ _ e] at hb ⊢
    exact hf.rmem b z hb
  ·by_cases e : b = w.heap.size
   ·subst e; simp
   ·rw [upd_ne _ _ e] at hb
    exact hf.rlt b hb
 have := hf2.put (d := d) (x := .v x) (v := v) hd (hx' _ _) (fun _ h => h.elim)
 exact ⟨β,_,this⟩
theorem FRelB.mput (h : FRelB G w β R a st) (hi : Inv G w) {b : Nat} {x : Box} (hb : st.mem b = some x) {o : Obj} {y : Box} (ho : ∀ w',w'.heap[b]? = some o → Ext G w G w' → BoxRep G.com w' b y) {d : Option Tmp}
  (hd : ∀ t,d = some t → t < a.tmps.size) {z : AV} {v : Value} (hz : ∀ com w',Rep com w' z v) :
  Ext G w G (w.setBlock' b o) ∧ Inv G (w.setBlock' b o) ∧ FRel G (w.setBlock' b o) (a.put d v) (st.eff d (.mput z b y)) := by
 obtain ⟨h1,h2,h3⟩ := h.mset hi hb ho none (fun t ht => by cases ht)
 refine ⟨h1,h2,⟨β,R,?_⟩⟩
 have h3' : FRelB G (w.setBlock' b o) β R a { st with mem := upd st.mem b (some y) } := h3
 exact h3'.put (d := d) (x := .v z) (v := v) hd (hz _ _) (fun _ h => h.elim)
/-! ### Maps with numbers for keys -/
theorem mfind_sound {com : Nat → Nat} {w : World} {q : IntKind} {n : Int} : ∀ (kv : List (AV × AV)) (es : List MapEntry) (i : Nat) {r : Option AV},mfind (.int q n) kv = some r → kv.length = es.length →
  (∀ (i : Nat) (k x : AV) (m : MapEntry),kv[i]? = some (k,x) → es[i]? = some m → Rep com w k m.key ∧ Rep com w x m.val) →
  match r with
  | some x => ∃ j v,Instr.findNow (.int q) (.int q n) es i = some (some (j,v)) ∧ Rep com w x v
  | none => Instr.findNow (.int q) (.int q n) es i = some none
 | [],[],i,r,h,_,_ => by
  simp only [mfind,Option.some.injEq] at h
  subst h
  rfl
 | [],_ :: _,_,_,_,h,_ => by simp at h
 | _ :: _,[],_,_,_,h,_ => by simp at h
 | (k,x) :: kv,m :: es,i,r,h,hl,hr => by
  cases k with
  | int p c =>
   obtain ⟨h1,h2⟩ := hr 0 (.int p c) x m rfl rfl
   have hk : m.key = .int p c := rep_int h1
   simp only [mfind] at h
   split at h
   ·rename_i e
    subst e
    have hs : Instr.sameNow (.int p) (.int p n) m.key = some (n == c) := by rw [hk]; simp [Instr.sameNow]
    split at h
    ·rename_i e2
     subst e2
     simp only [Option.some.injEq] at h
     subst h
     refine ⟨i,m.val,?_,h2⟩
     unfold Instr.findNow
     rw [hs]; simp
    ·rename_i e2
     have e3 : (n == c) = false := by simp; exact fun h => e2 h.symm
     have := mfind_sound kv es (i + 1) h (by simpa using hl) (fun j k y m' hk hm => hr (j + 1) k y m' (by simpa using hk) (by simpa using hm))
     have e4 : Instr.findNow (.int p) (.int p n) (m :: es) i = Instr.findNow (.int p) (.int p n) es (i + 1) := by
      conv => lhs; unfold Instr.findNow
      rw [hs,e3]
     rw [e4]; exact this
   ·cases h
  | _ => simp [mfind] at h
theorem isIntKey_inv (hE : EnvOk E) {kt : TypeId} {k : AV} (h : isIntKey E.T kt k) {v : Value} (hv : Rep G.com w k v) : ∃ q n,k = .int q n ∧ v = .int q n ∧ E.P.underlying kt = some (.int q) := by
 unfold isIntKey at h
 split at h
 ·rename_i q _ _ _ q' n hT
  subst h
  obtain ⟨dd,hu,hdd⟩ := (hE _ _ hT).desc
  cases dd <;> simp only [descOk] at hdd
  subst hdd
  cases hv
  exact ⟨_,_,rfl,rfl,hu⟩
 ·exact h.elim
theorem vcLookup_sound (hE : EnvOk E) (hf : FRelB G w β R a st) {t : TypeId} {x k : SV} {ok : Bool} {K : AV → Prop} (h : vcLookup E t x k ok st.mem K) {vx vk : Value} (hx : SRep G.com w β x vx) (hk : SRep G.com w β k vk) :
  ∃ r v,K r ∧ Rep G.com w r v ∧ (Instr.lookup t vx vk ok).run E.P w = .ok v w := by
 unfold vcLookup at h
 split at h
 ·rename_i kt et _ _ _ b l hT
  obtain ⟨dd,hu,hdd⟩ := (hE _ _ hT).desc
  cases dd <;> simp only [descOk] at hdd
  obtain ⟨rfl,rfl⟩ := hdd
  have hvx : vx = .map (some b) := by have := srep_v hx; cases this; rfl
  subst hvx
  split at h
  ·rename_i kv hm
   obtain ⟨_,_,_,_,es,clock,hb,hl,hr⟩ := hf.mem b _ hm
   have hobj := MapKept.run_getObj_map (P := E.P) hb
   obtain ⟨f,hfi,h⟩ := h
   obtain ⟨hck,hfnd⟩ := hfi G.com w vk es.toList (srep_v hk) (by simp [hl]) (fun i k x m hk hm => hr i k x m hk (by simpa using hm))
   have hck := hck es.isEmpty
   split at h
   ·rename_i y i hTe
    obtain ⟨j,v,hfk,hv⟩ := hfnd
    cases ok with
    | true =>
     refine ⟨_,_,h,.tuple [y,.bool true] [v,.bool true] rfl ?_,?_⟩
     ·intro i x u hx hu
      rcases i with _ | _ | i
      ·simp at hx hu; subst hx hu; exact hv
      ·simp at hx hu; subst hx hu; exact .bool _
      ·simp at hx
     ·unfold Instr.lookup
      simp [Sem.run_bind,run_underlying hu,Result.andThen_ok,hobj,hck,hfk]
    | false =>
     refine ⟨_,_,h,hv,?_⟩
     unfold Instr.lookup
     simp [Sem.run_bind,run_underlying hu,Result.andThen_ok,hobj,hck,hfk]
   ·rename_i i hTe
    have hfk := hfnd
    simp only at hfk
    obtain ⟨zv,hz,hzr⟩ := (hE _ _ hTe).zero
    cases ok with
    | true =>
     refine ⟨_,_,h,.tuple [zeroOf i,.bool false] [zv,.bool false] rfl ?_,?_⟩
     ·intro j x u hx hu
      rcases j with _ | _ | j
      ·simp at hx hu; subst hx hu; exact hzr _ _
      ·simp at hx hu; subst hx hu; exact .bool _
      ·simp at hx
     ·unfold Instr.lookup
      simp [Sem.run_bind,run_underlying hu,Result.andThen_ok,hobj,hck,hfk,hz]
    | false =>
     refine ⟨_,_,h,hzr _ _,?_⟩
     unfold Instr.lookup
     simp [Sem.run_bind,run_underlying hu,Result.andThen_ok,hobj,hck,hfk,hz]
   ·exact h.elim
  ·exact h.elim
 ·rename_i kt et _ _ _ b k _ hT
  obtain ⟨hkey,h⟩ := h
  obtain ⟨q,n,rfl,rfl,hku⟩ := isIntKey_inv hE hkey (srep_v hk)
  obtain ⟨dd,hu,hdd⟩ := (hE _ _ hT).desc
  cases dd <;> simp only [descOk] at hdd
  obtain ⟨rfl,rfl⟩ := hdd
  have hvx : vx = .map (some b) := by have := srep_v hx; cases this; rfl
  subst hvx
  split at h
  ·rename_i kv hm
   obtain ⟨_,_,_,_,es,clock,hb,hl,hr⟩ := hf.mem b _ hm
   have hobj := MapKept.run_getObj_map (P := E.P) hb
   have hck : (Instr.checkKey es.isEmpty 10000 kt (.int q n)).run E.P w = .ok () w := MapKept.run_checkKey (k := .int q n) hku (by simp [MapKept.IsKey]) _ 9999
   split at h
   ·rename_i y i hmf hTe
    have hfnd := mfind_sound kv es.toList 0 hmf (by simp [hl]) (fun i k x m hk hm => hr i k x m hk (by simpa using hm))
    obtain ⟨j,v,hfn,hv⟩ := hfnd
    have hfk : (Instr.findKey kt (.int q n) es.toList).run E.P w = .ok (some (j,v)) w := by
     unfold Instr.findKey
     simp [Sem.run_bind,run_underlying hku,Result.andThen_ok,hfn]
    cases ok with
    | true =>
     refine ⟨_,_,h,.tuple [y,.bool true] [v,.bool true] rfl ?_,?_⟩
     ·intro i x u hx hu
      rcases i with _ | _ | i
      ·simp at hx hu; subst hx hu; exact hv
      ·simp at hx hu; subst hx hu; exact .bool _
      ·simp at hx
     ·unfold Instr.lookup
      simp [Sem.run_bind,run_underlying hu,Result.andThen_ok,hobj,hck,hfk]
    | false =>
     refine ⟨_,_,h,hv,?_⟩
     unfold Instr.lookup
     simp [Sem.run_bind,run_underlying hu,Result.andThen_ok,hobj,hck,hfk]
   ·rename_i i hmf hTe
    have hfn := mfind_sound kv es.toList 0 hmf (by simp [hl]) (fun i k x m hk hm => hr i k x m hk (by simpa using hm))
    simp only at hfn
    have hfk : (Instr.findKey kt (.int q n) es.toList).run E.P w = .ok none w := by
     unfold Instr.findKey
     simp [Sem.run_bind,run_underlying hku,Result.andThen_ok,hfn]
    obtain ⟨zv,hz,hzr⟩ := (hE _ _ hTe).zero
    cases ok with
    | true =>
     refine ⟨_,_,h,.tuple [zeroOf i,.bool false] [zv,.bool false] rfl ?_,?_⟩
     ·intro j x u hx hu
      rcases j with _ | _ | j
      ·simp at hx hu; subst hx hu; exact hzr _ _
      ·simp at hx hu; subst hx hu; exact .bool _
      ·simp at hx
     ·unfold Instr.lookup
      simp [Sem.run_bind,run_underlying hu,Result.andThen_ok,hobj,hck,hfk,hz]
    | false =>
     refine ⟨_,_,h,hzr _ _,?_⟩
     unfold Instr.lookup
     simp [Sem.run_bind,run_underlying hu,Result.andThen_ok,hobj,hck,hfk,hz]
   ·exact h.elim
  ·exact h.elim
 ·exact h.elim
theorem vcMapUpdate_sound (hE : EnvOk E) (hf : FRelB G w β R a st) (hi : Inv G w) {t : TypeId} {x k y : SV} {K : Eff → Prop} (h : vcMapUpdate E t x k y st.mem K) {vx vk vy : Value} (hx : SRep G.com w β x vx) (hk : SRep G.com w β k vk)
  (hy : SRep G.com w β y vy) (dst : Option Tmp) (hd : ∀ t,dst = some t → t < a.tmps.size) :
  ∃ e w',K e ∧ (Instr.mapUpdate t vx vk vy).run E.P w = .ok () w' ∧ Ext G w G w' ∧ Inv G w' ∧ FRelB G w' β R (a.put dst undef) (st.eff dst e) := by
 unfold vcMapUpdate at h
 split at h
 ·rename_i kt et _ _ _ b l y hT
  obtain ⟨dd,hu,hdd⟩ := (hE _ _ hT).desc
  cases dd <;> simp only [descOk] at hdd
  obtain ⟨rfl,rfl⟩ := hdd
  have hvx : vx = .map (some b) := by have := srep_v hx; cases this; rfl
  subst hvx
  split at h
  ·rename_i kv hm
   obtain ⟨hfi,h⟩ := h
   obtain ⟨m1,m2,m3,m4,es,clock,hb,hl,hr⟩ := hf.mem b _ hm
   have hobj := MapKept.run_getObj_map (P := E.P) hb
   obtain ⟨hck,hfk⟩ := hfi G.com w vk es.toList (srep_v hk) (by simp [hl]) (fun i k x m hk hm => hr i k x m hk (by simpa using hm))
   have hck := hck false
   simp only at hfk
   have hset : (setObj b (.map (es.push { key := vk,val := vy,born := clock }) (clock + 1))).run E.P w = .ok () (w.setBlock' b (.map (es.push { key := vk,val := vy,born := clock }) (clock + 1))) := by
    simp [setObj,Sem.run,hb,World.setBlock']
   obtain ⟨hxx,hii,hfr⟩ := hf.mset hi hm (o := .map (es.push { key := vk,val := vy,born := clock }) (clock + 1)) (y := .map (kv ++ [(.agg l,y)])) (fun w' hw' hx' => by
    refine ⟨_,_,hw',by simp [hl],fun i k' x' m hk' hm' => ?_⟩
    by_cases hlt : i < kv.length
    ·rw [List.getElem?_append_left hlt] at hk'
     rw [Array.getElem?_push_lt (by omega)] at hm'
     obtain ⟨r1,r2⟩ := hr i k' x' m hk' (by rw [← hm',Array.getElem?_eq_getElem (by omega)])
     exact ⟨r1.ext hx',r2.ext hx'⟩
    ·have e : i = kv.length := by
      have := (List.getElem?_eq_some_iff.1 hk').1
      simp at this; omega
     subst e
     rw [List.getElem?_append_right (Nat.le_refl _)] at hk'
     simp at hk'
     obtain ⟨rfl,rfl⟩ := hk'
     rw [← hl] at hm'
     simp at hm'
     subst hm'
     exact ⟨(srep_v hk).ext hx',(srep_v hy).ext hx'⟩) dst hd
   refine ⟨_,_,h,?_,hxx,hii,hfr⟩
   unfold Instr.mapUpdate
   simp [Sem.run_bind,run_underlying hu,Result.andThen_ok,hobj,hck,hfk,hset]
  ·exact h.elim
 ·rename_i kt et _ _ _ b k y _ hT
  obtain ⟨hkey,h⟩ := h
  obtain ⟨q,n,rfl,rfl,hku⟩ := isIntKey_inv hE hkey (srep_v hk)
  obtain ⟨dd,hu,hdd⟩ := (hE _ _ hT).desc
  cases dd <;> simp only [descOk] at hdd
  obtain ⟨rfl,rfl⟩ := hdd
  have hvx : vx = .map (some b) := by have := srep_v hx; cases this; rfl
  subst hvx
  split at h
  ·rename_i kv hm
   obtain ⟨hmf,h⟩ := h
   obtain ⟨m1,m2,m3,m4,es,clock,hb,hl,hr⟩ := hf.mem b _ hm
   have hobj := MapKept.run_getObj_map (P := E.P) hb
   have hck : (Instr.checkKey false 10000 kt (.int q n)).run E.P w = .ok () w := MapKept.run_checkKey (k := .int q n) hku (by simp [MapKept.IsKey]) _ 9999
   have hfn := mfind_sound kv es.toList 0 hmf (by simp [hl]) (fun i k x m hk hm => hr i k x m hk (by simpa using hm))
   simp only at hfn
   have hfk : (Instr.findKey kt (.int q n) es.toList).run E.P w = .ok none w := by
    unfold Instr.findKey
    simp [Sem.run_bind,run_underlying hku,Result.andThen_ok,hfn]
   have hset : (setObj b (.map (es.push { key := .int q n,val := vy,born := clock }) (clock + 1))).run E.P w = .ok () (w.setBlock' b (.map (es.push { key := .int q n,val := vy,born := clock }) (clock + 1))) := by
    simp [setObj,Sem.run,hb,World.setBlock']
   obtain ⟨hxx,hii,hfr⟩ := hf.mset hi hm (o := .map (es.push { key := .int q n,val := vy,born := clock }) (clock + 1)) (y := .map (kv ++ [(.int q n,y)])) (fun w' hw' hx' => by
    refine ⟨_,_,hw',by simp [hl],fun i k' x' m hk' hm' => ?_⟩
    by_cases hlt : i < kv.length
    ·rw [List.getElem?_append_left hlt] at hk'
     rw [Array.getElem?_push_lt (by omega)] at hm'
     obtain ⟨r1,r2⟩ := hr i k' x' m hk' (by rw [← hm',Array.getElem?_eq_getElem (by omega)])
     exact ⟨r1.ext hx',r2.ext hx'⟩
    ·have e : i = kv.length := by
      have := (List.getElem?_eq_some_iff.1 hk').1
      simp at this; omega
     subst e
     rw [List.getElem?_append_right (Nat.le_refl _)] at hk'
     simp at hk'
     obtain ⟨rfl,rfl⟩ := hk'
     rw [← hl] at hm'
     simp at hm'
     subst hm'
     exact ⟨.int _ _,(srep_v hy).ext hx'⟩) dst hd
   refine ⟨_,_,h,?_,hxx,hii,hfr⟩
   unfold Instr.mapUpdate
   simp [Sem.run_bind,run_underlying hu,Result.andThen_ok,hobj,hck,hfk,hset]
  ·exact h.elim
 ·exact h.elim
theorem vcRange_sound (hE : EnvOk E) (hf : FRelB G w β R a st) (hi : Inv G w) {t : TypeId} {x : SV} {K : Eff → Prop} (h : vcRange E t x st.mem K) {vx : Value} (hx : SRep G.com w β x vx) {d : Option Tmp} (hd : ∀ t,d = some t → t < a.tmps.size) :
  ∃ e v w',K e ∧ (Instr.range t vx).run E.P w = .ok v w' ∧ Ext G w G w' ∧ Inv G w' ∧ FRel G w' (a.put d v) (st.eff d e) := by
 unfold vcRange at h
 split at h
 ·rename_i _ _ _ s hT
  obtain ⟨dd,hu,hdd⟩ := (hE _ _ hT).desc
  cases dd <;> simp only [descOk] at hdd
  obtain rfl := rep_str (srep_v hx)
  obtain ⟨h1,h2,h3,h4⟩ := hf.fresh hi hd (o := .stringIter s 0) (x := .ptr w.heap.size 0) (v := .pointer (some ⟨w.heap.size,0,none⟩)) (y := .iter s 0) (fun w' hw _ => hw) (fun _ _ => .ptr _ _)
  exact ⟨_,_,_,h _ h1,run_range_string w t s hu,h2,h3,h4⟩
 ·exact h.elim
theorem vcNext_sound (hf : FRelB G w β R a st) (hi : Inv G w) {x : SV} {K : Eff → Prop} (h : vcNext x st.mem K) {vx : Value} (hx : SRep G.com w β x vx) {d : Option Tmp} (hd : ∀ t,d = some t → t < a.tmps.size) (P : Program) (ty : TypeId) :
  ∃ e v w',K e ∧ (Instr.next vx true ty).run P w = .ok v w' ∧ Ext G w G w' ∧ Inv G w' ∧ FRel G w' (a.put d v) (st.eff d e) := by
 unfold vcNext at h
 split at h
 ·rename_i b
  obtain rfl := rep_ptr (srep_v hx)
  split at h
  ·rename_i s pos hm
   have hb : w.heap[b]? = some (.stringIter s pos) := (hf.mem b _ hm).2.2.2.2
   by_cases hp : pos < s.size
   ·rw [if_pos hp] at h
    obtain ⟨h1,h2,h3⟩ := hf.mput hi hm (o := .stringIter s (pos + (Utf8.decode s pos).2)) (y := .iter s (pos + (Utf8.decode s pos).2)) (fun w' hw _ => hw) hd
     (z := .tuple [.bool true,.int .i64 pos,.int .i32 (Utf8.decode s pos).1]) (v := .tuple #[.bool true,.int .i64 pos,.int .i32 (Utf8.decode s pos).1]) (fun com w' => by
      refine .tuple _ [.bool true,.int .i64 pos,.int .i32 (Utf8.decode s pos).1] rfl ?_
      intro i x v hx hv
      rcases i with _ | _ | _ | i
      ·simp at hx hv; subst hx hv; exact .bool _
      ·simp at hx hv; subst hx hv; exact .int _ _
      ·simp at hx hv; subst hx hv; exact .int _ _
      ·simp at hx)
    refine ⟨_,_,_,h,?_,h1,h2,h3⟩
    simp [Instr.next,getObj,setObj,Sem.run_bind,Sem.run,hb,Result.andThen,hp,goInt,World.setBlock']
   ·rw [if_neg hp] at h
    refine ⟨_,.tuple #[.bool false],_,h,?_,Ext.refl _ _,hi,β,R,hf.put (d := d) (x := .v (.tuple [.bool false])) hd ?_ (fun _ h => h.elim)⟩
    ·simp [Instr.next,getObj,Sem.run_bind,Sem.run,hb,Result.andThen,hp]
    ·refine Rep.tuple _ [.bool false] rfl ?_
     intro i x v hx hv
     rcases i with _ | i
     ·simp at hx hv; subst hx hv; exact .bool _
     ·simp at hx
  ·exact h.elim
 ·exact h.elim
theorem RowRep.flat {com : Nat → Nat} {w : World} {sz : Nat} : ∀ {l : List AV} {cs : List Value},RowRep com w sz l cs → Reps com w (l.map AV.cells).flatten cs
 | [],cs,h => by
  have : cs = [] := by apply List.eq_nil_of_length_eq_zero; rw [h.1]; simp
  subst this
  exact Reps.nil
 | e :: l,cs,h => by
  obtain ⟨h1,h2,h3⟩ := h
  have he : e.cells.length = sz := h2 e (by simp)
  have hlen : cs.length = sz + l.length * sz := by rw [h1,List.length_cons,Nat.add_mul,Nat.one_mul,Nat.add_comm]
  have e1 : cs = cs.take sz ++ cs.drop sz := (List.take_append_drop sz cs).symm
  have a1 : Reps com w e.cells (cs.take sz) := by
   refine ⟨by rw [he]; simp; omega,fun j x v hj hv => ?_⟩
   have hjs : j < sz := by rw [← he]; exact (List.getElem?_eq_some_iff.1 hj).1
   refine h3 0 e j x v rfl hj ?_
   rw [List.getElem?_take_of_lt hjs] at hv
   simpa using hv
  have a2 : RowRep com w sz l (cs.drop sz) := by
   refine ⟨by simp; omega,fun e' h' => h2 e' (by simp [h']),fun k e' j x v hk hj hv => ?_⟩
   refine h3 (k + 1) e' j x v (by simpa using hk) hj ?_
   rw [List.getElem?_drop] at hv
   rw [← hv]; congr 1; rw [Nat.add_mul,Nat.one_mul]; omega
  rw [e1]
  simp only [List.map_cons,List.flatten_cons]
  exact a1.append a2.flat
theorem copy_sound (hE : EnvOk E) (hf : FRelB G w β R a st) (hi : Inv G w) {t : TypeId} {x y : SV} {K : Eff → Prop} (h : vcCopy E t x y st.loc K) {vx vy : Value} (hx : SRep G.com w β x vx) (hy : SRep G.com w β y vy) {d : Option Tmp}
  (hd : ∀ t,d = some t → t < a.tmps.size) (ts : List TypeId) (vs : List Value) (ty : TypeId) :
  ∃ e v w',K e ∧ (Builtin.copy_ (t :: ts).toArray ty (vx :: vy :: vs).toArray).run E.P w = .ok v w' ∧ Ext G w G w' ∧ Inv G w' ∧ FRel G w' (a.put d v) (st.eff d e) := by
 unfold vcCopy at h
 split at h
 ·rename_i e _ _ _ i off len cap sz l hT
  split at h
  ·rename_i ei cells hTe hl
   obtain ⟨⟨rfl,rfl,hle⟩,hk⟩ := h
   obtain ⟨dd,hu,hdd⟩ := (hE _ _ hT).desc
   cases dd <;> simp only [descOk] at hdd
   subst hdd
   have hsz := (hE _ _ hTe).size w
   obtain ⟨hlc,off',rfl,hoff⟩ := hx
   obtain ⟨cs,hrow,hfl,hfc,hlen,hml⟩ := slice_row (srep_v hy)
   have hf1 := hfc E.P w (fun _ => rfl)
   have hl1 := hlen E.P w
   obtain ⟨⟨k1,k2,k3,old,eo,hb,hrc⟩,k5⟩ := hf.loc i cells hl
   have hcl : cs.length = l.length * ei.size := hrow.1
   have hrcs : Reps G.com w (l.map AV.cells).flatten cs := hrow.flat
   have hol : old.length = cells.length := hrc.1.symm
   have hst : (storeCells ⟨β i,off',none⟩ cs).run E.P w = .ok () (w.setBlock' (β i) (.cells (writeAt old off cs).toArray eo (0,0))) := by
    rcases hoff with rfl | h0
    ·have := storeCells_run (P := E.P) (b := β i) (off := off') (e := eo) cs 0 w old hb (by rw [hcl,hol]; omega) (row_plain hrow hfl)
     simpa using this
    ·have hl0 : l.length = 0 := by omega
     have hc0 : cs = [] := by
      apply List.eq_nil_of_length_eq_zero
      rw [hcl,hl0,Nat.zero_mul]
     subst hc0
     have e1 : writeAt old off [] = old := by
      unfold writeAt; simp
     rw [e1]
     have e2 : w.setBlock' (β i) (.cells old.toArray eo (0,0)) = w := by
      unfold World.setBlock'
      have hlt := (Array.getElem?_eq_some_iff.1 hb)
      congr 1
      apply Array.ext_getElem?
      intro k
      by_cases hk : β i = k
      ·subst hk; simp [hb,hlt.1]; exact hlt.2.symm
      ·simp [Array.getElem?_setIfInBounds_ne hk]
     rw [e2]; rfl
   obtain ⟨h1,h2,h3⟩ := hf.set hi hl (e := eo) (hrc.overlay hrcs off) none (fun t ht => by cases ht)
   have h3' : FRelB G _ β R a { st with loc := upd st.loc i (some (overlay cells off (l.map AV.cells).flatten)) } := h3
   refine ⟨_,.int .i64 l.length,_,hk,?_,h1,h2,β,R,h3'.put (d := d) (x := .v (.int .i64 l.length)) hd (.int _ _) (fun _ h => h.elim)⟩
   simp [Builtin.copy_,Sem.run_bind,run_underlying hu,Result.andThen_ok,hl1,hsz,hf1,hst,goInt]
  ·exact h.elim
 ·exact h.elim
end
end Go.Proofs.Ytikodjpbknneoaa.Abs
/- The abstract machine,part 13: 'ev' is sound. -/
namespace Go.Proofs.Ytikodjpbknneoaa.Abs
set_option linter.unusedSimpArgs false
open Go Go.RowKit
section
variable {E : Env} {G : Gh} {w : World} {β : Nat → Nat} {R : Nat → Role} {a : Act} {st : St}
theorem zip_head {T : TypeId → Option TyI} {ts : List TypeId} {xs : List Operand} {t : TypeId} {tr : List TypeId} {x : SV} {xr : List SV}
  (h1 : ts = t :: tr) (h2 : ((ts.zip xs).map fun p => st.sv T p.1 p.2) = x :: xr) : ∃ y ys,xs = y :: ys ∧ x = st.sv T t y ∧ xr = (tr.zip ys).map fun p => st.sv T p.1 p.2 := by
 subst h1
 cases xs with
 | nil => simp at h2
 | cons y ys =>
  simp only [List.zip_cons_cons,List.map_cons,List.cons.injEq] at h2
  exact ⟨y,ys,rfl,h2.1.symm,h2.2.symm⟩
theorem builtin_sound (hE : EnvOk E) {o : Oper} {c : Call} (hop : o.op = .call c) {b : Builtin} (hcb : c.callee = .builtin b) {K : Eff → Prop} (hdst : o.dst.isSome = true)
  (h : vcBuiltin E b c.argTypes.toList ((c.argTypes.toList.zip c.args.toList).map fun p => st.sv E.T p.1 p.2) (c.args.toList.map (st.sv E.T 0)) (c.args.toList.map st.ow) st.loc K)
  (hi : Inv G w) (hf : FRelB G w β R a st) (hd : ∀ t,o.dst = some t → t < a.tmps.size) :
  ∃ e,K e ∧ OpOk E.P o a w G ((st.takeO (takes o)).eff o.dst e) := by
 have hrun0 : ∀ v w',(builtin b c.argTypes o.type (c.args.map fun | .const _ => true | _ => false) (c.args.map a.eval)).run E.P w = .ok v w' → (execOp a.eval o).run E.P w = .ok v w' := by
  intro v w' h
  unfold execOp
  simp only [hop,resolve,hcb,Sem.run_bind,Sem.run_pure,Result.andThen_ok,invoke]
  exact h
 unfold vcBuiltin at h
 split at h
 ·-- len
  have htk : takes o = none := by simp [takes,hop,hcb]
  rw [htk]
  split at h
  ·rename_i t tr x xr hts hxs
   obtain ⟨y,ys,hys,rfl,_⟩ := zip_head hts hxs
   obtain ⟨r,z,hk,hz,hr⟩ := vcLenT_sound hE h (hf.eval E.T t y) tr (ys.map a.eval) o.type
   refine ⟨_,hk,opOk_av hf hi hd hz (hrun0 _ _ ?_)⟩
   have e1 : c.argTypes = (t :: tr).toArray := by rw [← hts]
   have e2 : c.args.map a.eval = (a.eval y :: ys.map a.eval).toArray := by
    apply Array.ext'
    simp [hys]
   rw [e1,e2]
   simp [builtin,hr]
  ·exact h.elim
 ·-- append
  obtain ⟨d,hdd⟩ := Option.isSome_iff_exists.1 hdst
  split at h
  ·rename_i t t2 tr s x xr ow0 owr hts hxs hos
   obtain ⟨y,ys,hys,rfl,hxs'⟩ := zip_head hts hxs
   obtain ⟨y2,ys2,hys2,rfl,_⟩ := zip_head (ts := t2 :: tr) rfl hxs'.symm
   subst hys2
   have htk : takes o = some y := by simp [takes,hop,hcb,hys]
   have how : ow0 = st.ow y := by
    rw [hys] at hos
    simp only [List.map_cons,List.cons.injEq] at hos
    exact hos.1.symm
   subst how
   rw [htk,hdd]
   obtain ⟨r,z,w',G',hk,hr,hx,hi',hfr⟩ := append_sound hE hi hf (hd d hdd) h (hf.eval E.T t y) (hf.eval E.T t2 y2) o.type (fun ho => by
    cases y with
    | tmp t' => exact .inr ⟨t',ho,rfl,rfl⟩
    | const v =>
     refine .inl ?_
     simp only [St.ow] at ho
     split at ho
     ·rename_i e; cases e
     ·rename_i e; cases e; rfl
     ·simp at ho
    | global g => simp [St.ow] at ho
    | func f => simp [St.ow] at ho)
   refine ⟨_,hk,z,w',G',.inl (hrun0 _ _ ?_),hx,hi',?_⟩
   ·have e1 : c.argTypes = (t :: t2 :: tr).toArray := by rw [← hts]
    have e2 : c.args.map a.eval = (a.eval y :: a.eval y2 :: ys2.map a.eval).toArray := by
     apply Array.ext'
     simp [hys]
    have e3 : (Builtin.append_ c.argTypes o.type (c.args.map a.eval)) = Builtin.append_ #[t,t2] o.type #[a.eval y,a.eval y2] := by
     rw [e1,e2]
     unfold Builtin.append_
     simp
    simp [builtin,e3,hr]
   ·have how : st.ow y = true := by
     unfold vcAppend at h
     split at h
     ·split at h
      ·exact h.1.1
      ·exact h.elim
     ·exact h.elim
    rw [hdd] at *
    cases y with
    | tmp t' =>
     exact hfr t' (.inr ⟨how,rfl,rfl⟩)
    | const v =>
     have hv : v = .slice none 0 0 := by
      simp only [St.ow] at how
      split at how
      ·rename_i e; cases e
      ·rename_i e; cases e; rfl
      ·simp at how
     have := hfr d (.inl hv)
     rw [put_disowned] at this
     exact this
    | global g => simp [St.ow] at how
    | func f => simp [St.ow] at how
  ·exact h.elim
 ·-- copy
  have htk : takes o = none := by simp [takes,hop,hcb]
  rw [htk]
  split at h
  ·rename_i t tr x y xr hts hxs
   obtain ⟨z,zs,hzs,rfl,hxs'⟩ := zip_head hts hxs
   rcases tr with _ | ⟨t2,tr⟩
   ·simp at hxs'
   ·obtain ⟨z2,zs2,hzs2,rfl,_⟩ := zip_head (ts := t2 :: tr) rfl hxs'.symm
    subst hzs2
    obtain ⟨e,v,w',hk,hr,h1,h2,h3⟩ := copy_sound hE hf hi h (hf.eval E.T t z) (hf.eval E.T t2 z2) hd (t2 :: tr) (zs2.map a.eval) o.type
    refine ⟨_,hk,v,w',G,.inl (hrun0 _ _ ?_),h1,h2,h3⟩
    have e1 : c.argTypes = (t :: t2 :: tr).toArray := by rw [← hts]
    have e2 : c.args.map a.eval = (a.eval z :: a.eval z2 :: zs2.map a.eval).toArray := by
     apply Array.ext'
     simp [hzs]
    rw [e1,e2]
    simp [builtin,hr]
  ·exact h.elim
 ·-- min
  have htk : takes o = none := by simp [takes,hop,hcb]
  rw [htk]
  unfold vcMinMax at h
  split at h
  ·rename_i k m k' n hb hxs
   obtain ⟨rfl,h⟩ := h
   obtain ⟨v1,v2,hv⟩ : ∃ y y2,c.args.toList = [y,y2] := by
    rcases hl : c.args.toList with _ | ⟨y,_ | ⟨y2,_ | _⟩⟩ <;> rw [hl] at hxs <;> simp at hxs
    exact ⟨_,_,rfl⟩
   rw [hv] at hxs
   simp only [List.map_cons,List.map_nil,List.cons.injEq,and_true] at hxs
   have h1 := hf.eval E.T 0 v1
   have h2 := hf.eval E.T 0 v2
   rw [hxs.1] at h1
   rw [hxs.2] at h2
   refine ⟨_,h,opOk_av hf hi hd (.int _ _) (hrun0 _ _ ?_)⟩
   have e2 : c.args.map a.eval = #[.int k m,.int k n] := by
    apply Array.ext'
    simp [hv,rep_int (srep_v h1),rep_int (srep_v h2)]
   rw [e2]
   simp only [builtin,Builtin.min_,List.foldlM_cons,List.foldlM_nil,Builtin.min2,Sem.run_bind,Sem.run_pure,Result.andThen_ok]
   congr 3
   rw [Int.min_def]
   by_cases e : n < m
   ·rw [if_pos e,if_neg (by omega)]
   ·rw [if_neg e,if_pos (by omega)]
  ·rename_i hb _; exact absurd hb (by simp)
  ·exact h.elim
 ·-- max
  have htk : takes o = none := by simp [takes,hop,hcb]
  rw [htk]
  unfold vcMinMax at h
  split at h
  ·rename_i hb _; exact absurd hb (by simp)
  ·rename_i k m k' n hb hxs
   obtain ⟨rfl,h⟩ := h
   obtain ⟨v1,v2,hv⟩ : ∃ y y2,c.args.toList = [y,y2] := by
    rcases hl : c.args.toList with _ | ⟨y,_ | ⟨y2,_ | _⟩⟩ <;> rw [hl] at hxs <;> simp at hxs
    exact ⟨_,_,rfl⟩
   rw [hv] at hxs
   simp only [List.map_cons,List.map_nil,List.cons.injEq,and_true] at hxs
   have h1 := hf.eval E.T 0 v1
   have h2 := hf.eval E.T 0 v2
   rw [hxs.1] at h1
   rw [hxs.2] at h2
   refine ⟨_,h,opOk_av hf hi hd (.int _ _) (hrun0 _ _ ?_)⟩
   have e2 : c.args.map a.eval = #[.int k m,.int k n] := by
    apply Array.ext'
    simp [hv,rep_int (srep_v h1),rep_int (srep_v h2)]
   rw [e2]
   simp only [builtin,Builtin.max_,List.foldlM_cons,List.foldlM_nil,Builtin.max2,Sem.run_bind,Sem.run_pure,Result.andThen_ok]
   congr 3
   rw [Int.max_def]
   by_cases e : n > m
   ·rw [if_pos e,if_pos (by omega)]
   ·rw [if_neg e]; by_cases e2 : m ≤ n
    ·rw [if_pos e2]; omega
    ·rw [if_neg e2]
  ·exact h.elim
 ·exact h.elim
theorem move_sound {dst : Option Tmp} {type : TypeId} {pos : String} {after : Array Edge} {guard : Option (Nat × Bool)} {op : Op} {x : Operand} {T : TypeId → Option TyI} {P : Program} (hi : Inv G w) (hf : FRelB G w β R a st)
  (hd : ∀ t,dst = some t → t < a.tmps.size) (hrun : (execOp a.eval ⟨dst,op,type,pos,after,guard⟩).run P w = .ok (.value (a.eval x)) w) :
  OpOk P ⟨dst,op,type,pos,after,guard⟩ a w G ((st.take x).eff dst (.put (st.sv T type x) (st.ow x && isSlice (st.sv T type x)))) := by
 refine ⟨_,w,G,.inl hrun,Ext.refl _ _,hi,?_⟩
 have hv := hf.eval T type x
 have hrf := hf.refs T type x
 cases x with
 | tmp t =>
  cases ho : st.own t with
  | false =>
   have e : (st.ow (.tmp t) && isSlice (st.sv T type (.tmp t))) = false := by simp [St.ow,ho]
   rw [e]
   exact ⟨β,R,(hf.disown t).put hd hv hrf⟩
  | true =>
   obtain ⟨sz,l,e,_⟩ := hf.own t ho
   have e : (st.ow (.tmp t) && isSlice (st.sv T type (.tmp t))) = true := by simp [St.ow,ho,St.sv,e,isSlice]
   rw [e]
   cases dst with
   | none => exact ⟨β,R,hf.disown t⟩
   | some d => exact hf.moveOwn (hd d rfl) ho
 | const v =>
  by_cases e : (st.ow (.const v) && isSlice (st.sv T type (.const v))) = true
  ·rw [e]
   rw [Bool.and_eq_true] at e
   have hnil : v = .slice none 0 0 := by
    have h := e.1
    simp only [St.ow] at h
    split at h
    ·rename_i e'; cases e'
    ·rename_i e'; cases e'; rfl
    ·simp at h
   have hsl := e.2
   cases dst with
   | none => exact ⟨β,R,hf⟩
   | some d =>
    refine ⟨β,R,hf.putOwn (hd d rfl) hv hrf ?_ (fun b _ => rfl) hf.rlt⟩
    cases hc : st.sv T type (.const v) with
    | v y =>
     rw [hc] at hsl
     cases y <;> simp [isSlice] at hsl
     exact ⟨_,_,rfl,.inl hnil⟩
    | loc i off => rw [hc] at hsl; simp [isSlice] at hsl
    | lslice i off len cap => rw [hc] at hsl; simp [isSlice] at hsl
  ·have e : (st.ow (.const v) && isSlice (st.sv T type (.const v))) = false := by simpa using e
   rw [e]
   exact ⟨β,R,hf.put hd hv hrf⟩
 | global g => exact ⟨β,R,hf.put hd hv hrf⟩
 | func f => exact ⟨β,R,hf.put hd hv hrf⟩
theorem pick_run {P : Program} {dst : Option Tmp} {type : TypeId} {pos : String} {after : Array Edge} {guard : Option (Nat × Bool)} {c x y : Operand} {z : Value}
  (hr : (do pure (if ← asBool (a.eval c) then a.eval x else a.eval y) : Sem Value).run P w = .ok z w) : (execOp a.eval ⟨dst,.pick c x y,type,pos,after,guard⟩).run P w = .ok (.value z) w := by
 simp only [execOp,Sem.run_bind] at hr ⊢
 cases hb : (asBool (a.eval c)).run P w with
 | ok b w' =>
  rw [hb] at hr
  simp only [Result.andThen_ok,Sem.run_pure,Result.ok.injEq] at hr ⊢
  obtain ⟨h1,h2⟩ := hr
  subst h2
  rw [← h1]
  exact ⟨rfl,rfl⟩
 | halt h w' => rw [hb] at hr; simp [Result.andThen] at hr
theorem ev_sound (hE : EnvOk E) {o : Oper} {K : Eff → Prop} (h : ev E o (st.sv E.T) st.ow st.loc st.mem K) (hi : Inv G w) (hf : FRelB G w β R a st) (hd : ∀ t,o.dst = some t → t < a.tmps.size) :
  ∃ e,K e ∧ OpOk E.P o a w G ((st.takeO (takes o)).eff o.dst e) := by
 obtain ⟨dst,op,type,pos,after,guard⟩ := o
 have sv := fun ty x => hf.eval E.T ty x
 have rf := fun ty x i => hf.refs E.T ty x i
 unfold ev at h
 cases op <;> simp only at h
 case move x =>
  refine ⟨_,h,?_⟩
  have hrun : (execOp a.eval ⟨dst,.move x,type,pos,after,guard⟩).run E.P w = .ok (.value (a.eval x)) w := by simp [execOp]
  exact move_sound hi hf hd hrun
 case assign x =>
  refine ⟨_,h,?_⟩
  have hrun : (execOp a.eval ⟨dst,.assign x,type,pos,after,guard⟩).run E.P w = .ok (.value (a.eval x)) w := by simp [execOp]
  exact move_sound hi hf hd hrun
 case pick c x y =>
  obtain ⟨r,z,hk,hz,hrf,hr⟩ := vcPick_sound h (sv 0 c) (sv type x) (sv type y) (rf _ _) (rf _ _) E.P
  exact ⟨_,hk,opOk_value hf hi hd hz hrf (pick_run hr)⟩
 case alloc t =>
  split at h
  ·exact h.elim
  ·rename_i d
   split at h
   ·rename_i i hH hT
    obtain ⟨hl,hk⟩ := h
    obtain ⟨zv,hz,hzr⟩ := (hE t i hT).zero
    have hc := rep_cells (hzr G.com w) (hE t i hT).zc.2.1
    rw [(hE t i hT).zc.1] at hc
    have h0 : G.com w.heap.size = 0 := hi.com_new (Nat.le_refl _)
    obtain ⟨hx,hi'⟩ := alloc_grow hi (.cells zv.cells.toList.toArray t (0,0)) 0 (fun h => absurd rfl h)
    rw [setCom_zero G h0] at hx hi'
    refine ⟨_,hk,_,_,G,.inl ?_,hx,hi',hf.new hi (hd d rfl) hl hc t none⟩
    simp [execOp,Instr.alloc,Sem.run_bind,hz,newVar,newRow]
   ·rename_i i hH hT
    obtain ⟨zv,hz,hzr⟩ := (hE t i hT).zero
    have hc := rep_cells (hzr G.com w) (hE t i hT).zc.2.1
    rw [(hE t i hT).zc.1] at hc
    obtain ⟨h1,h2,h3,h4⟩ := hf.fresh hi (d := some d) hd (o := .cells zv.cells.toList.toArray t (0,0)) (x := .ptr w.heap.size 0) (v := .pointer (some ⟨w.heap.size,0,none⟩)) (y := .cells i.zero)
     (fun w' hw hx => ⟨_,_,hw,hc.ext hx⟩) (fun _ _ => .ptr _ _)
    refine ⟨_,h _ h1,_,_,G,.inl ?_,h2,h3,h4⟩
    simp [execOp,Instr.alloc,Sem.run_bind,hz,newVar,newRow]
   ·exact h.elim
 case box t x =>
  split at h
  ·rename_i d y hy
   have hxr := sv t x
   rw [hy] at hxr
   obtain ⟨hkn,h⟩ := h
   have hc := rep_cells (srep_v hxr) hkn
   split at h
   ·have hcc : y.cells.length ≠ 0 → ∃ cs' e' fz,(Obj.cells (a.eval x).cells t (0,0)) = .cells cs' e' fz ∧ y.cells.length ≤ cs'.size := fun _ => ⟨_,_,_,rfl,by rw [hc.1]; simp⟩
    obtain ⟨hx,hi'⟩ := alloc_grow hi (.cells (a.eval x).cells t (0,0)) y.cells.length hcc
    have hfr := hf.alloc hi (.cells (a.eval x).cells t (0,0)) y.cells.length hcc
    refine ⟨_,h,_,_,_,.inl ?_,hx,hi',β,R,hfr.put (x := .v (.eptr y.cells)) (v := .pointer (some ⟨w.heap.size,0,none⟩)) (fun t ht => hd t ht) ?_ (fun _ h => h.elim)⟩
    ·simp [execOp,Instr.box,newVar,newRow]
    ·refine .eptr _ _ 0 (fun i => (a.eval x).cells.toList.getD i undef) (by simp [Gh.setCom,upd_same]) (fun i hi => ?_) (fun j z hj => ?_)
     ·have hb := heap_alloc_new w (.cells (a.eval x).cells.toList.toArray t (0,0))
      have := cell_block hb (0 + i)
      have hlt : i < (a.eval x).cells.toList.length := by rw [← hc.1]; exact hi
      simp only [Nat.zero_add] at this ⊢
      rw [show (a.eval x).cells = (a.eval x).cells.toList.toArray by simp,this]
      simp at hlt
      simp [hlt]
     ·have hlt : j < (a.eval x).cells.toList.length := by rw [← hc.1]; exact (List.getElem?_eq_some_iff.1 hj).1
      have := hc.2 j z _ hj (List.getElem?_eq_getElem hlt)
      have e : (a.eval x).cells.toList.getD j undef = (a.eval x).cells.toList[j] := by rw [List.getD_eq_getElem?_getD,List.getElem?_eq_getElem hlt]; rfl
      rw [e]; exact this.ext hx
   ·obtain ⟨hl,hk⟩ := h
    have h0 : G.com w.heap.size = 0 := hi.com_new (Nat.le_refl _)
    obtain ⟨hx,hi'⟩ := alloc_grow hi (.cells (a.eval x).cells.toList.toArray t (0,0)) 0 (fun h => absurd rfl h)
    rw [setCom_zero G h0] at hx hi'
    refine ⟨_,hk,_,_,G,.inl ?_,hx,hi',hf.new hi (hd d rfl) hl hc t none⟩
    simp [execOp,Instr.box,newVar,newRow]
   ·obtain ⟨h1,h2,h3,h4⟩ := hf.fresh hi (d := some d) hd (o := .cells (a.eval x).cells.toList.toArray t (0,0)) (x := .ptr w.heap.size 0) (v := .pointer (some ⟨w.heap.size,0,none⟩)) (y := .cells y.cells)
     (fun w' hw hx => ⟨_,_,hw,hc.ext hx⟩) (fun _ _ => .ptr _ _)
    refine ⟨_,h _ h1,_,_,G,.inl ?_,h2,h3,h4⟩
    simp [execOp,Instr.box,newVar,newRow]
  ·exact h.elim
 case build t parts =>
  obtain ⟨r,z,hk,hz,hr⟩ := vcBuild_sound hE h (vals := parts.map fun (i,x) => (i,a.eval x)) (by simp) (parts_srep hf E.T _ parts)
  exact ⟨_,hk,opOk_av hf hi hd hz (by simp [execOp,hr])⟩
 case buildSlice t len parts =>
  obtain ⟨hds,h⟩ := h
  obtain ⟨d,hdd⟩ := Option.isSome_iff_exists.1 hds
  subst hdd
  obtain ⟨sz,l,cs,e,hk,hrow,hfl,rfl,hlm,hr⟩ := vcBuildSlice_sound hE h (vals := parts.map fun (i,x) => (i,a.eval x)) (by simp) (parts_srep hf E.T _ parts)
  obtain ⟨hx,hi',hfr⟩ := hf.putRow hi (hd d rfl) (sz := sz) (l := l) (cs := cs) e (cap := l.length) (by rw [← hrow.1,List.take_length]; exact hrow) hfl (Nat.le_refl _) hlm (by rw [hrow.1]; exact Nat.le_refl _)
  exact ⟨_,hk,_,_,_,.inl (by simp [execOp,hr]),hx,hi',hfr⟩
 case load t x =>
  obtain ⟨r,z,hk,hz,hr⟩ := vcLoad_sound hE hf h (sv 0 x)
  exact ⟨_,hk,opOk_av hf hi hd hz (by simp [execOp,hr])⟩
 case store t p x =>
  have hp := sv 0 p
  have hx := sv t x
  unfold vcStore at h
  split at h
  ·rename_i i off y hpe hxe
   rw [hpe] at hp; rw [hxe] at hx
   split at h
   ·rename_i l hl
    obtain ⟨⟨k1,k2,k3,cs,e,hb,hrc⟩,k5⟩ := hf.loc i l hl
    obtain ⟨l',cs',hk,hr',_,hrun⟩ := storeVar_sound hE h (srep_v hx) hb hrc
    obtain ⟨hxx,hii,hfr⟩ := hf.set hi hl (e := e) hr' dst hd
    have ep : a.eval p = .pointer (some ⟨β i,off,none⟩) := hp
    refine ⟨_,hk,undef,_,G,.inr ⟨?_,rfl⟩,hxx,hii,β,R,hfr⟩
    simp [execOp,Instr.storeAt,Instr.sureAddr,ep,hrun]
   ·exact h.elim
  ·rename_i b off y hpe hxe
   rw [hpe] at hp; rw [hxe] at hx
   split at h
   ·rename_i l hl
    obtain ⟨k1,k2,k3,k4,cs,e,hb,hrc⟩ := hf.mem b _ hl
    obtain ⟨l',cs',hk,hr',_,hrun⟩ := storeVar_sound hE h (srep_v hx) hb hrc
    obtain ⟨hxx,hii,hfr⟩ := hf.mset hi hl (o := .cells cs'.toArray e (0,0)) (y := .cells l') (fun w' hw' hx' => ⟨cs',e,hw',hr'.ext hx'⟩) dst hd
    refine ⟨_,hk,undef,_,G,.inr ⟨?_,rfl⟩,hxx,hii,β,R,hfr⟩
    simp [execOp,Instr.storeAt,Instr.sureAddr,rep_ptr (srep_v hp),hrun]
   ·exact h.elim
  ·exact h.elim
 case nilCheck x =>
  obtain ⟨hk,hv⟩ := vcNil_sound h (sv 0 x)
  refine ⟨_,hk,opOk_value hf hi hd (sv 0 x) (rf 0 x) ?_⟩
  rcases hv with ⟨p,hv⟩ | ⟨f,fs,cs,hv⟩
  ·simp [execOp,hv]
  ·simp [execOp,hv]
 case binOp op t x y yt =>
  obtain ⟨r,z,hk,hz,hr⟩ := vcBin_sound hE h (sv t x) (sv yt y) x y
  refine ⟨_,hk,opOk_av hf hi hd hz ?_⟩
  simp only [execOp,Sem.run_bind] at hr ⊢
  rw [hr]; rfl
 case unOp op t x =>
  obtain ⟨r,z,hk,hz,hr⟩ := vcUn_sound h (sv t x) E.P
  exact ⟨_,hk,opOk_av hf hi hd hz (by simp [execOp,hr])⟩
 case convert s d x =>
  obtain ⟨r,z,hk,hz,hr⟩ := vcConvert_sound hE h (sv s x)
  exact ⟨_,hk,opOk_av hf hi hd hz (by simp [execOp,hr])⟩
 case makeFunc f first caps =>
  cases hfs : avs (first.toList.map (st.sv E.T 0)) with
  | none => rw [hfs] at h; exact h.elim
  | some fs =>
   rw [hfs] at h
   cases hcs : avs (caps.toList.map (st.sv E.T 0)) with
   | none => rw [hcs] at h; exact h.elim
   | some cs =>
    rw [hcs] at h
    have r1 := avs_sound _ fs (first.toList.map a.eval) hfs (by simp) (map_srep hf E.T 0 first.toList)
    have r2 := avs_sound _ cs (caps.toList.map a.eval) hcs (by simp) (map_srep hf E.T 0 caps.toList)
    refine ⟨_,h,opOk_av hf hi hd (.fn f fs cs _ _ r1.1 r2.1 r1.2 r2.2) ?_⟩
    have e1 : first.map a.eval = (first.toList.map a.eval).toArray := by apply Array.ext'; simp
    have e2 : caps.map a.eval = (caps.toList.map a.eval).toArray := by apply Array.ext'; simp
    simp [execOp,Instr.makeFunc,e1,e2]
 case makeSlice t n c =>
  split at h
  ·exact h.elim
  ·rename_i d
   split at h
   ·obtain ⟨l,k,cs,e,hk,hr,hrun⟩ := makeSlice_sound hE h (sv 0 n) (sv 0 c)
    obtain ⟨h1,h2,h3,h4⟩ := hf.fresh hi (d := some d) hd (o := .cells cs.toArray e (0,0)) (x := .mslice w.heap.size 0 k k) (v := .slice (some ⟨w.heap.size,0,none⟩) k k) (y := .cells l)
     (fun w' hw hx => ⟨_,_,hw,hr.ext hx⟩) (fun _ _ => .mslice _ _ _ _)
    exact ⟨_,hk _ h1,_,_,G,.inl (by simp [execOp,hrun]),h2,h3,h4⟩
   ·obtain ⟨hl,h⟩ := h
    obtain ⟨l,k,cs,e,hk,hr,hrun⟩ := makeSlice_sound hE h (sv 0 n) (sv 0 c)
    have h0 : G.com w.heap.size = 0 := hi.com_new (Nat.le_refl _)
    obtain ⟨hx,hi'⟩ := alloc_grow hi (.cells cs.toArray e (0,0)) 0 (fun h => absurd rfl h)
    rw [setCom_zero G h0] at hx hi'
    exact ⟨_,hk,_,_,G,.inl (by simp [execOp,hrun]),hx,hi',hf.new hi (hd d rfl) hl hr e (some k)⟩
 case makeMap t r =>
  split at h
  ·obtain ⟨h1,h2,h3,h4⟩ := hf.fresh hi (d := dst) hd (o := .map #[] 0) (x := .map w.heap.size) (v := .map (some w.heap.size)) (y := .map []) (fun w' hw hx => ⟨_,_,hw,rfl,fun i k x m hk => by simp at hk⟩) (fun _ _ => .map _)
   exact ⟨_,h _ h1,_,_,G,.inl (by simp [execOp,Instr.makeMap]),h2,h3,h4⟩
  ·exact h.elim
 case lookup t x k ok =>
  obtain ⟨r,z,hk,hz,hr⟩ := vcLookup_sound hE hf h (sv t x) (sv 0 k)
  exact ⟨_,hk,opOk_av hf hi hd hz (by simp [execOp,hr])⟩
 case mapUpdate t x k y =>
  obtain ⟨e,w',hk,hr,hx,hi',hfr⟩ := vcMapUpdate_sound hE hf hi h (sv t x) (sv 0 k) (sv 0 y) dst hd
  exact ⟨e,hk,undef,w',G,.inr ⟨by simp [execOp,hr],rfl⟩,hx,hi',β,R,hfr⟩
 case range t x =>
  obtain ⟨e,v,w',hk,hr,hx,hi',hfr⟩ := vcRange_sound hE hf hi h (sv t x) hd
  exact ⟨e,hk,v,w',G,.inl (by simp [execOp,hr]),hx,hi',hfr⟩
 case next x s =>
  obtain ⟨rfl,h⟩ := h
  obtain ⟨e,v,w',hk,hr,hx,hi',hfr⟩ := vcNext_sound hf hi h (sv 0 x) hd E.P type
  exact ⟨e,hk,v,w',G,.inl (by simp [execOp,hr]),hx,hi',hfr⟩
 case slice t x lo hi' mx =>
  obtain ⟨r,z,hk,hz,hrf,hr⟩ := sliceOp_sound (st := st) hE h (sv t x) (rf t x) (vlo := lo.map a.eval) (vhi := hi'.map a.eval) (vmx := mx.map a.eval) (fun x hx => optmap_some hf E.T lo x hx) (optmap_none E.T lo)
   (fun x hx => optmap_some hf E.T hi' x hx) (optmap_none E.T hi') (optmap_none E.T mx)
  exact ⟨_,hk,opOk_value hf hi hd hz hrf (by simp [execOp,hr])⟩
 case fieldAddr s x f =>
  obtain ⟨r,z,hk,hz,hrf,hr⟩ := vcFieldAddr_sound (st := st) hE h (sv 0 x) (rf 0 x)
  exact ⟨_,hk,opOk_value hf hi hd hz hrf (by simp [execOp,hr])⟩
 case field s x f =>
  obtain ⟨r,z,hk,hz,hr⟩ := vcField_sound hE h (sv s x)
  exact ⟨_,hk,opOk_av hf hi hd hz (by simp [execOp,hr])⟩
 case indexAddr t x i =>
  obtain ⟨r,z,hk,hz,hrf,hr⟩ := vcIndexAddr_sound (st := st) hE h (sv t x) (sv 0 i) (rf t x)
  exact ⟨_,hk,opOk_value hf hi hd hz hrf (by simp [execOp,hr])⟩
 case index t x i =>
  obtain ⟨r,z,hk,hz,hr⟩ := vcIndex_sound hE h (sv t x) (sv 0 i)
  exact ⟨_,hk,opOk_av hf hi hd hz (by simp [execOp,hr])⟩
 case extract x i =>
  obtain ⟨r,z,hk,hz,hr⟩ := vcExtract_sound h (sv 0 x) E.P
  exact ⟨_,hk,opOk_av hf hi hd hz (by simp [execOp,hr])⟩
 case call c =>
  split at h
  ·rename_i b hb
   exact builtin_sound hE (o := ⟨dst,.call c,type,pos,after,guard⟩) rfl hb h.1 h.2 hi hf hd
  ·exact h.elim
end
end Go.Proofs.Ytikodjpbknneoaa.Abs
/- The abstract machine,part 14: calls,guards,regions in the order of the text. -/
namespace Go.Proofs.Ytikodjpbknneoaa.Abs
set_option linter.unusedSimpArgs false
open Go Go.RowKit
structure ExtL (G : Gh) (w : World) (G' : Gh) (w' : World) : Prop where
 z : G'.z = G.z
 lock : ∀ b,G.lock b → G'.lock b
 size : w.heap.size ≤ w'.heap.size
 com : ∀ b,G.com b ≤ G'.com b
 cell : ∀ b i,i < G.com b → w'.cell? ⟨b,i,none⟩ = w.cell? ⟨b,i,none⟩
 held : ∀ b,G.lock b → w'.heap[b]? = w.heap[b]? ∧ G'.com b = G.com b
theorem Ext.toL {G G' : Gh} {w w' : World} (h : Ext G w G' w') : ExtL G w G' w' := ⟨h.z,fun b hb => by rw [h.lock]; exact hb,h.size,h.com,h.cell,h.held⟩
theorem ExtL.refl (G : Gh) (w : World) : ExtL G w G w := (Ext.refl G w).toL
theorem ExtL.trans {G G' G'' : Gh} {w w' w'' : World} (h : ExtL G w G' w') (k : ExtL G' w' G'' w'') : ExtL G w G'' w'' where
 z := k.z.trans h.z
 lock b hb := k.lock b (h.lock b hb)
 size := Nat.le_trans h.size k.size
 com b := Nat.le_trans (h.com b) (k.com b)
 cell b i hi := (k.cell b i (Nat.lt_of_lt_of_le hi (h.com b))).trans (h.cell b i hi)
 held b hb := by
  obtain ⟨h1,h2⟩ := h.held b hb
  obtain ⟨k1,k2⟩ := k.held b (h.lock b hb)
  exact ⟨k1.trans h1,k2.trans h2⟩
def fen : Option Nat → Fence
 | none => Fence.wide
 | some l => Fence.wide.inRound l
theorem fen_fn (r : Option Nat) (f : FuncId) : (fen r).fn f := by cases r <;> trivial
theorem fen_depth (r : Option Nat) {p : Prop} : (fen r).depth.isSome = true → p := by cases r <;> intro h <;> cases h
theorem calls_fen {r : Option Nat} {n : Nat} {P : Program} {f : FuncId} {args : Array Value} {w : World} {R : Ending → World → Prop} (h : Calls P f args w R) : CallsIn (fen r) n P f args w R := by
 cases r with
 | none => exact callsIn_wide.2 h
 | some l => exact CallsIn.inRound l (callsIn_wide.2 h)
theorem round_fen {r : Option Nat} {n : Nat} {P : Program} {l : Nat} {f : FuncId} {tmps : Array Value} {assign body : Code} {w : World} {R : Ending → World → Prop} (h : RoundIn Fence.wide 0 P l f tmps assign body w R) :
  RoundIn (fen r) n P l f tmps assign body w R := by
 cases r with
 | none => exact ⟨h.1,fun c cs _ => h.2 c cs (room_wide _)⟩
 | some k => exact ⟨h.1,fun c cs _ => h.2 c cs (room_wide _)⟩
theorem oper_in {r : Option Nat} {P : Program} {o : Oper} {a : Act} {w : World} {next : Act → World → Prop} {Q : Exit → Act → World → Prop} (hd : ∀ c,o.op ≠ .defer c) (h : o.uponIn (fen r) 0 P a next Q ((execOp a.eval o).run P w)) :
  o.wpIn (fen r) 0 P a w next Q := ⟨fun _ _ => fen_fn r _,by rw [Oper.semAt_plain _ _ _ hd]; exact h⟩
def Sat (n : Nat) (G : Gh) (w : World) (K : Exit → St → Prop) (e : Exit) (a' : Act) (w' : World) : Prop :=
 ∃ G' st',ExtL G w G' w' ∧ Inv G' w' ∧ FRel G' w' a' st' ∧ a'.tmps.size = n ∧ K e st'
def AWp (E : Env) (n : Nat) (c : Code) (K : Exit → St → Prop) (st : St) : Prop :=
 ∀ (r : Option Nat),r.isSome = E.rd → ∀ (G : Gh) (w : World) (a : Act),Inv G w → FRel G w a st → a.tmps.size = n → c.wpIn (fen r) 0 E.P (Sat n G w K) a w
section
variable {E : Env} {G : Gh} {w : World} {β : Nat → Nat} {R : Nat → Role} {a : Act} {st : St}
theorem freeze_sound (hi : Inv G w) (hf : FRelB G w β R a st) (i : Nat) : ∃ G' R',Ext G w G' w ∧ Inv G' w ∧ FRelB G' w β R' a (st.freeze i) := by
 unfold St.freeze
 split
 ·exact ⟨G,R,Ext.refl _ _,hi,hf⟩
 ·rename_i l hl
  obtain ⟨⟨h1,h2,h3,cs,e,hb,hr⟩,h5⟩ := hf.loc i l hl
  have hlen : l.length = cs.length := hr.1
  have hlt := hf.rlt (β i) (by rw [h5]; simp)
  have hx : Ext G w (G.setCom (β i) l.length) w := by
   refine ⟨rfl,rfl,Nat.le_refl _,fun b => ?_,fun _ _ _ => rfl,fun b hb' => ⟨rfl,?_⟩⟩
   ·by_cases eb : b = β i
    ·subst eb; rw [h3]; exact Nat.zero_le _
    ·simp [Gh.setCom,upd_ne _ _ eb]
   ·have : b ≠ β i := by rintro rfl; exact h2 hb'
    simp [Gh.setCom,upd_ne _ _ this]
  have hii : Inv (G.setCom (β i) l.length) w := by
   refine ⟨hi.below,fun b hb' => ?_,hi.lock⟩
   by_cases eb : b = β i
   ·subst eb
    simp only [Gh.setCom,upd_same] at hb' ⊢
    exact ⟨_,_,_,hb,by simp [hlen]⟩
   ·simp only [Gh.setCom,upd_ne _ _ eb] at hb' ⊢
    exact hi.com b hb'
  have key : ∀ b,R b ≠ .loc i → (G.setCom (β i) l.length).com b = G.com b := fun b hb' => by
   have : b ≠ β i := by rintro rfl; exact hb' h5
   simp [Gh.setCom,upd_ne _ _ this]
  refine ⟨_,R,hx,hii,⟨hf.defers,fun s => ?_,fun s hs => ?_,fun j lj hj => ?_,fun s j hj => ?_,?_,hf.rmem,hf.rlt⟩⟩
  ·have hv := hf.vals s
   show SRep _ _ _ (match st.vals s with | .loc j off => _ | .lslice j off len cap => _ | .v x => _) _
   revert hv
   generalize st.vals s = x
   cases x with
   | v x => exact fun h => h.ext hx
   | loc j off =>
    intro h
    show SRep _ _ _ (if j = i then (if off ≤ l.length then .v (.eptr (l.drop off)) else .v .top) else .loc j off) _
    by_cases ej : j = i
    ·subst ej
     rw [if_pos rfl]
     by_cases ho : off ≤ l.length
     ·rw [if_pos ho]
      have ev : a.tmps.getD s undef = .pointer (some ⟨β j,off,none⟩) := h
      rw [ev]
      refine .eptr _ _ off (fun k => cs.getD (off + k) undef) (by simp [Gh.setCom,upd_same]; omega) (fun k hk => ?_) (fun k y hk => ?_)
      ·rw [cell_block hb]
       have : off + k < cs.length := by simp at hk; omega
       simp [this]
      ·rw [List.getElem?_drop] at hk
       have hk' : off + k < cs.length := by rw [← hlen]; exact (List.getElem?_eq_some_iff.1 hk).1
       exact (hr.2 _ y _ hk (by simp [hk'])).ext hx
     ·rw [if_neg ho]; exact .top _
    ·rw [if_neg ej]; exact h
   | lslice j off len cap =>
    intro h
    show SRep _ _ _ (if j = i then .v .top else .lslice j off len cap) _
    by_cases ej : j = i
    ·rw [if_pos ej]; exact .top _
    ·rw [if_neg ej]; exact h
  ·obtain ⟨sz,l',e',hv⟩ := hf.own s hs
   refine ⟨sz,l',by simp [e'],hv.imp id ?_⟩
   rintro ⟨b,len,cap,cs,el,k1,k2,k3,k4,k5,k6,k7,k8⟩
   exact ⟨b,len,cap,cs,el,k1,k2,k3,k4,k5,k6,by rw [key b (by rw [k8]; simp)]; exact k7,k8⟩
  ·by_cases ej : j = i
   ·subst ej; simp at hj
   ·simp only [ej,if_false] at hj
    obtain ⟨k1,k2⟩ := hf.loc j lj hj
    exact ⟨k1.ext hx rfl (key _ (by rw [k2]; intro e; cases e; exact ej rfl)),k2⟩
  ·have hrf := hf.ref s
   have hj' : ((match st.vals s with | .loc j off => if j = i then (if off ≤ l.length then .v (.eptr (l.drop off)) else .v .top) else .loc j off | .lslice j off len cap => if j = i then .v .top else .lslice j off len cap | .v x => .v x : SV)).refs j := hj
   revert hrf hj'
   generalize st.vals s = x
   cases x with
   | v x => exact fun _ h => h.elim
   | loc k off =>
    intro hrf hj
    simp only at hj
    by_cases ek : k = i
    ·rw [if_pos ek] at hj
     split at hj <;> exact hj.elim
    ·rw [if_neg ek] at hj
     have e : k = j := hj
     subst e
     simp [ek]; exact hrf k rfl
   | lslice k off len cap =>
    intro hrf hj
    simp only at hj
    by_cases ek : k = i
    ·rw [if_pos ek] at hj; exact hj.elim
    ·rw [if_neg ek] at hj
     have e : k = j := hj
     subst e
     simp [ek]; exact hrf k rfl
  ·exact hf.mem.ext hx fun b x hb' => ⟨rfl,key b (by rw [hf.rmem b x hb']; simp)⟩
theorem freezes_sound : ∀ (xs : List SV) {G : Gh} {R : Nat → Role} {st : St},Inv G w → FRelB G w β R a st → ∃ G' R',Ext G w G' w ∧ Inv G' w ∧ FRelB G' w β R' a (st.freezes xs)
 | [],G,R,st,hi,hf => ⟨G,R,Ext.refl _ _,hi,hf⟩
 | .v _ :: xs,G,R,st,hi,hf => freezes_sound xs hi hf
 | .lslice _ _ _ _ :: xs,G,R,st,hi,hf => freezes_sound xs hi hf
 | .loc i _ :: xs,G,R,st,hi,hf => by
  obtain ⟨G1,R1,h1,h2,h3⟩ := freeze_sound hi hf i
  obtain ⟨G2,R2,k1,k2,k3⟩ := freezes_sound xs h2 h3
  exact ⟨G2,R2,h1.trans k1,k2,k3⟩
theorem call_frame (hi : Inv G w) (hf : FRelB G w β R a st) : ∃ G1 : Gh,G1.com = G.com ∧ Inv G1 w ∧ MemRep G1 w st.mem ∧
  ∀ (w' : World) (m' : Mem) (G' : Gh),Ext G1 w G' w' → Inv G' w' → MemRep G' w' m' → ∃ G2 R',G2.com = G'.com ∧ Ext G w G2 w' ∧ Inv G2 w' ∧ FRelB G2 w' β R' a { st with mem := m' } := by
 let G1 : Gh := { G with lock := fun b => G.lock b ∨ (∃ s,R b = .own s) ∨ ∃ i,R b = .loc i }
 have hi1 : Inv G1 w := by
  refine ⟨hi.below,hi.com,fun b hb => ?_⟩
  rcases hb with hb | ⟨s,hb⟩ | ⟨i,hb⟩
  ·exact hi.lock b hb
  ·exact hf.rlt b (by rw [hb]; simp)
  ·exact hf.rlt b (by rw [hb]; simp)
 have hm1 : MemRep G1 w st.mem := by
  intro b x hb
  obtain ⟨m1,m2,m3,m4,m5⟩ := hf.mem b x hb
  have hrm := hf.rmem b x hb
  refine ⟨m1,m2,?_,m4,m5⟩
  rintro (hl | ⟨s,hl⟩ | ⟨i,hl⟩)
  ·exact m3 hl
  ·rw [hrm] at hl; cases hl
  ·rw [hrm] at hl; cases hl
 refine ⟨G1,rfl,hi1,hm1,?_⟩
 intro w' m' G' hx hi' hm'
 let G2 : Gh := { G' with lock := G.lock }
 have hx2 : Ext G w G2 w' := ⟨hx.z,rfl,hx.size,hx.com,hx.cell,fun b hb => hx.held b (.inl hb)⟩
 have hi2 : Inv G2 w' := by
  refine ⟨hi'.below,hi'.com,fun b hb => hi'.lock b ?_⟩
  rw [hx.lock]; exact .inl hb
 have hfree : ∀ b x,m' b = some x → (∀ s,R b ≠ .own s) ∧ ∀ i,R b ≠ .loc i := by
  intro b x hb
  obtain ⟨_,_,m3,_,_⟩ := hm' b x hb
  rw [hx.lock] at m3
  exact ⟨fun s hs => m3 (.inr (.inl ⟨s,hs⟩)),fun i hs => m3 (.inr (.inr ⟨i,hs⟩))⟩
 let R' : Nat → Role := fun b => if (m' b).isSome then .mem else R b
 have hR' : ∀ b,(∃ s,R b = .own s) ∨ (∃ i,R b = .loc i) → R' b = R b := by
  intro b hb
  show (if (m' b).isSome then Role.mem else R b) = R b
  cases hmb : m' b with
  | none => rfl
  | some x =>
   obtain ⟨f1,f2⟩ := hfree b x hmb
   rcases hb with ⟨s,hb⟩ | ⟨i,hb⟩
   ·exact absurd hb (f1 s)
   ·exact absurd hb (f2 i)
 have hlk : ∀ b,G2.lock b ↔ G.lock b := fun _ => Iff.rfl
 refine ⟨G2,R',rfl,hx2,hi2,⟨hf.defers.step hx2,fun s => ?_,fun s hs => ?_,fun i l hl => ?_,hf.ref,fun b x hb => ?_,fun b x hb => ?_,fun b hb => ?_⟩⟩
 ·have hv := hf.vals s
  revert hv
  show SRep _ _ _ (st.vals s) _ → SRep _ _ _ (st.vals s) _
  generalize st.vals s = x
  cases x with
  | v x => exact fun h => h.ext hx2
  | loc i off => exact id
  | lslice i off len cap => exact id
 ·obtain ⟨sz,l,e1,hv⟩ := hf.own s hs
  refine ⟨sz,l,e1,hv.imp id ?_⟩
  rintro ⟨b,len,cap,cs,el,k1,k2,k3,k4,k5,k6,k7,k8⟩
  obtain ⟨q1,q2⟩ := hx.held b (.inr (.inl ⟨s,k8⟩))
  exact ⟨b,len,cap,cs,el,k1,by rw [hx2.W0]; exact k2,k3,by rw [q1]; exact k4,k5,k6,by show G'.com b = _; rw [q2]; exact k7,by rw [hR' b (.inl ⟨s,k8⟩)]; exact k8⟩
 ·obtain ⟨⟨k1,k2,k3,k4⟩,k5⟩ := hf.loc i l hl
  obtain ⟨q1,q2⟩ := hx.held (β i) (.inr (.inr ⟨i,k5⟩))
  exact ⟨⟨by rw [hx2.W0]; exact k1,k2,by show G'.com _ = 0; rw [q2]; exact k3,k4.ext hx2 q1⟩,by rw [hR' _ (.inr ⟨i,k5⟩)]; exact k5⟩
 ·obtain ⟨m1,m2,m3,m4,m5⟩ := hm' b x hb
  rw [hx.lock] at m3
  exact ⟨m1,m2,fun hl => m3 (.inl hl),m4,m5⟩
 ·show (if (m' b).isSome then Role.mem else R b) = .mem
  rw [show m' b = some x from hb]; rfl
 ·by_cases hmb : (m' b).isSome
  ·obtain ⟨x,hx'⟩ := Option.isSome_iff_exists.1 hmb
   exact (hm' b x hx').2.1
  ·have : R' b = R b := if_neg hmb
   rw [this] at hb
   exact Nat.lt_of_lt_of_le (hf.rlt b hb) hx.size
theorem call_sound (hi : Inv G w) (hf : FRelB G w β R a st) {g : FuncId} {xs : List AV} {vs : List Value} {K : AV → Mem → Prop} (h : ACall E.P g xs st.mem K) (hr : Reps G.com w xs vs) :
  Calls E.P g vs.toArray w fun e w' => ∃ v r m' G' R',e = .returned v ∧ Ext G w G' w' ∧ Inv G' w' ∧ FRelB G' w' β R' a { st with mem := m' } ∧ Rep G'.com w' r v ∧ K r m' := by
 obtain ⟨G1,hc,hi1,hm1,fin⟩ := call_frame hi hf
 refine (h.2 G1 w vs hi1 hm1 (by rw [hc]; exact hr)).mono ?_
 rintro e w' ⟨v,r,m',G',rfl,hx,hi',hm',hrep,hK⟩
 obtain ⟨G2,R',hc2,k1,k2,k3⟩ := fin w' m' G' hx hi' hm'
 exact ⟨v,r,m',G2,R',rfl,k1,k2,k3,by rw [hc2]; exact hrep,hK⟩
theorem yield_sound (hi : Inv G w) (hf : FRelB G w β R a st) {l : Nat} {xs : List AV} {vs : List Value} {K : AV → Mem → Prop} (h : AYield E.P l xs st.mem K) (hr : Reps G.com w xs vs) :
  ∃ f tmps assign body,(Instr.yield l vs.toArray).run E.P w = .ok (.round l f tmps assign body) w ∧ RoundIn Fence.wide 0 E.P l f tmps assign body w fun e w' =>
   ∃ v r m' G' R',e = .returned v ∧ Ext G w G' w' ∧ Inv G' w' ∧ FRelB G' w' β R' a { st with mem := m' } ∧ Rep G'.com w' r v ∧ K r m' := by
 obtain ⟨G1,hc,hi1,hm1,fin⟩ := call_frame hi hf
 obtain ⟨f,tmps,assign,body,hy,hround⟩ := h.does G1 w vs hi1 hm1 (by rw [hc]; exact hr)
 refine ⟨f,tmps,assign,body,hy,hround.mono ?_⟩
 rintro e w' ⟨v,r,m',G',rfl,hx,hi',hm',hrep,hK⟩
 obtain ⟨G2,R',hc2,k1,k2,k3⟩ := fin w' m' G' hx hi' hm'
 exact ⟨v,r,m',G2,R',rfl,k1,k2,k3,by rw [hc2]; exact hrep,hK⟩
theorem zip_avs (hf : FRelB G w β R a st) {T : TypeId → Option TyI} : ∀ (ts : List TypeId) (xs : List Operand) (ys : List AV),ts.length = xs.length → avs ((ts.zip xs).map fun p => st.sv T p.1 p.2) = some ys →
  Reps G.com w ys (xs.map a.eval)
 | [],[],ys,_,h => by simp [avs] at h; subst h; exact Reps.nil
 | t :: ts,x :: xs,ys,hl,h => by
  simp only [List.zip_cons_cons,List.map_cons] at h
  cases hx : st.sv T t x with
  | v y =>
   rw [hx] at h
   simp only [avs,Option.map_eq_some_iff] at h
   obtain ⟨zs,hz,rfl⟩ := h
   have hxr := hf.eval T t x
   rw [hx] at hxr
   exact Reps.cons hxr (zip_avs hf ts xs zs (by simpa using hl) hz)
  | loc => rw [hx] at h; simp [avs] at h
  | lslice => rw [hx] at h; simp [avs] at h
 | [],_ :: _,_,hl,_ => by simp at hl
 | _ :: _,[],_,hl,_ => by simp at hl
end
end Go.Proofs.Ytikodjpbknneoaa.Abs
/- The abstract machine,part 15: the conditions 'vc' of code are enough: loops,and whole functions. -/
namespace Go.Proofs.Ytikodjpbknneoaa.Abs
set_option linter.unusedSimpArgs false
open Go Go.RowKit
structure ALoop (E : Env) (n : Nat) (body : Code) (K : Exit → St → Prop) (st : St) (_t : Tag (body,K)) : Prop where
 does : codeOk n body = true → AWp E n (.loop body) K st
structure ADraw (E : Env) (n : Nat) (ops : Array Oper) (K : St → Prop) (st : St) (_t : Tag (ops,K)) : Prop where
 does : ops.toList.all (dstOk n) = true → ∀ id,AWp E n (.region id ops true) (fun e st' => e = .normal ∧ K st') st
structure ACut (E : Env) (n : Nat) (ops : Array Oper) (K : St → Prop) (st : St) (_t : Tag (ops,K)) : Prop where
 does : ops.toList.all (dstOk n) = true → ∀ id,AWp E n (.region id ops false) (fun e st' => e = .normal ∧ K st') st
structure ARange (E : Env) (n : Nat) (f : Operand) (ps : Array Tmp) (assign body : Code) (K : Exit → St → Prop) (st : St) (_t : Tag (f,ps,assign,body,K)) : Prop where
 does : AWp E n (.rangeFunc f ps assign body) K st
def vc (E : Env) (n : Nat) : Code → (Exit → St → Prop) → St → Prop
 | .skip,K,st => K .normal st
 | .region id ops false,K,st => if cutAt E.cut id = true then ACut E n ops (K .normal) st .mk else vcOps E ops ops.toList (K .normal) st
 | .region _ ops true,K,st => ADraw E n ops (K .normal) st .mk
 | .seq x y,K,st => vc E n x (fun e st' => match e with | .normal => vc E n y K st' | e => K e st') st
 | .cond c x y,K,st => match st.sv E.T 0 c with
  | .v (.bool b) => if b = true then vc E n x K st else vc E n y K st
  | _ => False
 | .block id x,K,st => vc E n x (fun e st' => match e with | .exit j => if j = id then K .normal st' else K (.exit j) st' | e => K e st') st
 | .exit id,K,st => K (.exit id) st
 | .ret,K,st => K .ret st
 | .loop body,K,st => ALoop E n body K st .mk
 | .rangeFunc f ps assign body,K,st => ARange E n f ps assign body K st .mk
 | .scope x,K,st => vc E n x (fun e st' => match e with | .goto _ => False | e => K e st') st
 | .label _,K,st => K .normal st
 | _,_,_ => False
section
variable {E : Env} {n : Nat} {K : Exit → St → Prop} {st : St}
theorem Sat.trans {G G' : Gh} {w w' : World} (hx : ExtL G w G' w') {K : Exit → St → Prop} {e : Exit} {a : Act} {v : World} (h : Sat n G' w' K e a v) : Sat n G w K e a v := by
 obtain ⟨G'',st',h1,h2⟩ := h
 exact ⟨G'',st',hx.trans h1,h2⟩
theorem AWp.mono {c : Code} {K' : Exit → St → Prop} (h : AWp E n c K st) (hk : ∀ e st',K e st' → K' e st') : AWp E n c K' st :=
 fun r hrd G w a hi hf hs => wpIn_mono (h r hrd G w a hi hf hs) fun e _ _ ⟨G',st',h1,h2,h3,h4,h5⟩ => ⟨G',st',h1,h2,h3,h4,hk e st' h5⟩
theorem awp_seq {x y : Code} (h : AWp E n x (fun e st' => match e with | .normal => AWp E n y K st' | e => K e st') st) : AWp E n (.seq x y) K st := by
 intro r hrd G w a hi hf hs
 refine wpIn_seq (wpIn_mono (h r hrd G w a hi hf hs) ?_)
 rintro e a' w' ⟨G',st',h1,h2,h3,h4,h5⟩
 cases e with
 | normal => exact wpIn_mono (h5 r hrd G' w' a' h2 h3 h4) fun e a v hv => hv.trans h1
 | _ => exact ⟨G',st',h1,h2,h3,h4,h5⟩
theorem awp_block {id : Nat} {x : Code} (h : AWp E n x (fun e st' => match e with | .exit j => if j = id then K .normal st' else K (.exit j) st' | e => K e st') st) : AWp E n (.block id x) K st := by
 intro r hrd G w a hi hf hs
 refine wpIn_block (wpIn_mono (h r hrd G w a hi hf hs) ?_)
 rintro e a' w' ⟨G',st',h1,h2,h3,h4,h5⟩
 cases e with
 | exit j =>
  simp only [Exit.inBlock] at h5 ⊢
  split
  ·rename_i e; subst e; rw [if_pos rfl] at h5; exact ⟨G',st',h1,h2,h3,h4,h5⟩
  ·rename_i e; rw [if_neg e] at h5; exact ⟨G',st',h1,h2,h3,h4,h5⟩
 | _ => exact ⟨G',st',h1,h2,h3,h4,h5⟩
theorem stepR_scope {P : Program} {b : Frame} {a : Act} {k : List Item} {cs : List Frame} {w : World} {c : Code} : step P (lone (b.atR a (.code (.scope c) :: k)) cs w) = .next (lone (b.atR a (.code c :: .inScope c :: k)) cs w) :=
 step_lone_go (by simp [stepG,stepG.exec,Frame.atR])
theorem stepR_inScope {P : Program} {b : Frame} {a : Act} {k : List Item} {cs : List Frame} {w : World} {c : Code} : step P (lone (b.atR a (.inScope c :: k)) cs w) = .next (lone (b.atR a k) cs w) :=
 step_lone_go (by simp [stepG,stepG.exec,Frame.atR])
theorem wpIn_scope {F : Fence} {k : Nat} {P : Program} {Q : Exit → Act → World → Prop} {a : Act} {w : World} {c : Code} (h : c.wpIn F k P (fun e a w => match e with | .goto _ => False | e => Q e a w) a w) : (Code.scope c).wpIn F k P Q a w := by
 intro b k cs hro hb hr
 have h0 : (lone (b.atR a (.code (.scope c) :: k)) cs w).fenced P F := fenced_calm hb hr rfl
 obtain ⟨e,a₁,w₁,hq,harr⟩ := h b (.inScope c :: k) cs hro hb hr
 cases e with
 | normal => exact ⟨.normal,a₁,w₁,hq,.head h0 stepR_scope (StepsIn.trans harr (.one (fenced_calm hb hr rfl) stepR_inScope))⟩
 | exit id =>
  have hx : exitTo id (.inScope c :: k) = exitTo id k := by simp [exitTo]
  exact ⟨.exit id,a₁,w₁,hq,fun k' hk => .head h0 stepR_scope (harr.1 k' (by rw [hx]; exact hk)),
   fun hr' hk => let ⟨k₁,h1,h2⟩ := harr.2 hr' (by rw [hx]; exact hk); ⟨k₁,h1,.head h0 stepR_scope h2⟩⟩
 | goto l => exact hq.elim
 | ret => exact ⟨_,a₁,w₁,hq,.of_steps (.one h0 stepR_scope) harr⟩
 | panic ch => exact ⟨_,a₁,w₁,hq,.of_steps (.one h0 stepR_scope) harr⟩
 | outgrown => exact ⟨_,a₁,w₁,hq,.of_steps (.one h0 stepR_scope) harr⟩
theorem awp_scope {x : Code} (h : AWp E n x (fun e st' => match e with | .goto _ => False | e => K e st') st) : AWp E n (.scope x) K st := by
 intro r hrd G w a hi hf hs
 refine wpIn_scope (wpIn_mono (h r hrd G w a hi hf hs) ?_)
 rintro e a' w' ⟨G',st',h1,h2,h3,h4,h5⟩
 cases e with
 | goto l => exact h5
 | _ => exact ⟨G',st',h1,h2,h3,h4,h5⟩
theorem awp_cond {c : Operand} {x y : Code} {b : Bool} (hb : st.sv E.T 0 c = .v (.bool b)) (ht : b = true → AWp E n x K st) (hf : b = false → AWp E n y K st) : AWp E n (.cond c x y) K st := by
 intro r hrd G w a hi ⟨β,R,hfr⟩ hs
 have hc := hfr.eval E.T 0 c
 rw [hb] at hc
 exact wpIn_cond_split (rep_bool (srep_v hc)) (fun h => ht h r hrd G w a hi ⟨β,R,hfr⟩ hs) (fun h => hf h r hrd G w a hi ⟨β,R,hfr⟩ hs)
theorem awp_here {c : Code} {e : Exit} (hk : K e st) (h : ∀ (F : Fence) (k : Nat) (P : Program) (Q : Exit → Act → World → Prop) (a : Act) (w : World),Q e a w → c.wpIn F k P Q a w) : AWp E n c K st :=
 fun _ _ G _ _ hi hf hs => h _ _ _ _ _ _ ⟨G,st,ExtL.refl _ _,hi,hf,hs,hk⟩
theorem ev_nodefer {o : Oper} {ρ : TypeId → Operand → SV} {ow : Operand → Bool} {loc : Nat → Option (List AV)} {mem : Mem} {K : Eff → Prop} (h : ev E o ρ ow loc mem K) : ∀ c,o.op ≠ .defer c := by
 intro c hc
 unfold ev at h
 rw [hc] at h
 exact h
theorem vcOp_sound (hE : EnvOk E) {o : Oper} {K : St → Prop} (h : vcOp E o K st) (hd : dstOk n o = true) {G : Gh} {w : World} {a : Act} (hi : Inv G w) (hf : FRel G w a st) (hs : a.tmps.size = n) {r : Option Nat}
  {next : Act → World → Prop} {Q : Exit → Act → World → Prop} (hn : ∀ a' w' G' st',Ext G w G' w' → Inv G' w' → FRel G' w' a' st' → a'.tmps.size = n → K st' → next a' w') : o.wpIn (fen r) 0 E.P a w next Q := by
 have hd' : ∀ t,o.dst = some t → t < a.tmps.size := fun t ht => by rw [hs]; simpa [dstOk,ht] using hd
 have plain : ∀ (st1 : St) (G1 : Gh),Ext G w G1 w → Inv G1 w → FRel G1 w a st1 → ev E o (st1.sv E.T) st1.ow st1.loc st1.mem (fun e => K ((st1.takeO (takes o)).eff o.dst e)) → o.wpIn (fen r) 0 E.P a w next Q := by
  intro st1 G1 hx1 hi1 ⟨β,R,hf1⟩ h
  have hnd := ev_nodefer h
  obtain ⟨e,hk,v,w',G',hr,hx,hi',hf'⟩ := ev_sound hE h hi1 hf1 hd'
  have hnn := hn (a.put o.dst v) w' G' _ (hx1.trans hx) hi' hf' (by rw [put_size]; exact hs) hk
  refine oper_in hnd ?_
  rcases hr with hr | ⟨hr,rfl⟩ <;> rw [hr]
  ·exact hnn
  ·exact hnn
 obtain ⟨β,R,hfb⟩ := hf
 unfold vcOp at h
 split at h
 ·rename_i c hop
  split at h
  ·rename_i f hcf
   obtain ⟨G1,R1,hx1,hi1,hf1⟩ := freezes_sound (c.args.toList.map (st.sv E.T 0)) hi hfb
   obtain ⟨hlen,h⟩ := h
   revert h hf1
   generalize st.freezes (c.args.toList.map (st.sv E.T 0)) = st1
   intro hf1 h
   have hnd : ∀ c,o.op ≠ .defer c := fun c hc => by rw [hop] at hc; cases hc
   unfold vcCall at h
   split at h
   ·rename_i g first caps ys hfe hys
    have hfv := hf1.eval E.T 0 f
    rw [hfe] at hfv
    obtain ⟨fs,cs,hval,hrf,hrc⟩ := rep_fn (srep_v hfv)
    have hra := zip_avs hf1 c.argTypes.toList c.args.toList ys hlen hys
    have hall := (hrf.append hra).append hrc
    have hcall := call_sound hi1 hf1 h hall
    have hrun : (execOp a.eval o).run E.P w = .ok (.enter g (fs ++ c.args.toList.map a.eval ++ cs).toArray) w := by
     have e2 : (fs.toArray ++ c.args.map a.eval ++ cs.toArray) = (fs ++ c.args.toList.map a.eval ++ cs).toArray := by
      apply Array.ext'; simp
     unfold execOp
     simp only [hop,resolve,hcf,hval,Deferred.ofValue,Sem.run_bind,Sem.run_pure,Result.andThen_ok,invoke]
     rw [h.1,e2]
    refine oper_in hnd ?_
    rw [hrun]
    refine ⟨fen_depth r,(calls_fen hcall).mono ?_⟩
    rintro e w' ⟨v,r,m',G',R',rfl,hx,hi',hf',hr,hK⟩
    have hfp := hf'.put (d := o.dst) (x := .v r) hd' hr (fun i h => h.elim)
    exact hn _ _ G' _ (hx1.trans hx) hi' ⟨β,R',hfp⟩ (by rw [put_size]; exact hs) hK
   ·rename_i l first caps ys hfe hys
    have hfv := hf1.eval E.T 0 f
    rw [hfe] at hfv
    obtain ⟨fs,cs,hval,hrf,hrc⟩ := rep_fn (srep_v hfv)
    have hra := zip_avs hf1 c.argTypes.toList c.args.toList ys hlen hys
    obtain ⟨f',tmps,assign,body,hy,hround⟩ := yield_sound hi1 hf1 h (hrf.append hra)
    have hrun : (execOp a.eval o).run E.P w = .ok (.round l f' tmps assign body) w := by
     have e2 : (fs.toArray ++ c.args.map a.eval) = (fs ++ c.args.toList.map a.eval).toArray := by
      apply Array.ext'; simp
     unfold execOp
     simp only [hop,resolve,hcf,hval,Deferred.ofValue,Sem.run_bind,Sem.run_pure,Result.andThen_ok,invoke]
     rw [e2,hy]
    refine oper_in hnd ?_
    rw [hrun]
    refine ⟨fen_depth r,(round_fen hround).mono ?_⟩
    rintro e w' ⟨v,r,m',G',R',rfl,hx,hi',hf',hr,hK⟩
    have hfp := hf'.put (d := o.dst) (x := .v r) hd' hr (fun i h => h.elim)
    exact hn _ _ G' _ (hx1.trans hx) hi' ⟨β,R',hfp⟩ (by rw [put_size]; exact hs) hK
   ·exact h.elim
  ·exact plain st G (Ext.refl _ _) hi ⟨β,R,hfb⟩ h
 ·rename_i f first caps hop
  obtain ⟨G1,R1,hx1,hi1,hf1⟩ := freezes_sound (first.toList.map (st.sv E.T 0)) hi hfb
  obtain ⟨G2,R2,hx2,hi2,hf2⟩ := freezes_sound (caps.toList.map (st.sv E.T 0)) hi1 hf1
  exact plain _ G2 (hx1.trans hx2) hi2 ⟨β,R2,hf2⟩ h
 ·exact plain st G (Ext.refl _ _) hi ⟨β,R,hfb⟩ h
theorem upd_self {α : Type} (f : Nat → α) (i : Nat) : upd f i (f i) = f := by
 funext k
 by_cases e : k = i
 ·subst e; rw [upd_same]
 ·rw [upd_ne _ _ e]
theorem getD_some {a : Act} {d : Nat} {v : Value} (h : a.tmps.getD d undef = v) (hv : v ≠ undef) : a.tmps[d]? = some v := by
 by_cases hlt : d < a.tmps.size
 ·rw [Array.getElem?_eq_getElem hlt]
  simp [Array.getD,hlt] at h
  rw [h]
 ·simp [Array.getD,hlt] at h
  exact absurd h.symm hv
theorem vcOps_sound (hE : EnvOk E) {ops : Array Oper} : ∀ (l : List Oper) {K : St → Prop} {st : St} {r : Option Nat},vcOps E ops l K st → l.all (dstOk n) = true →
  ∀ {G : Gh} {w : World} {a : Act},Inv G w → FRel G w a st → a.tmps.size = n → ∀ {Q : Exit → Act → World → Prop},(∀ a' w' G' st',Ext G w G' w' → Inv G' w' → FRel G' w' a' st' → a'.tmps.size = n → K st' → Q .normal a' w') →
  wpListIn (fen r) 0 E.P ops Q l a w
 | [],K,st,r,h,_,G,w,a,hi,hf,hs,Q,hQ => hQ a w G st (Ext.refl _ _) hi hf hs h
 | o :: rest,K,st,r,h,hd,G,w,a,hi,hf,hs,Q,hQ => by
  simp only [List.all_cons,Bool.and_eq_true] at hd
  obtain ⟨hd1,hd2⟩ := hd
  have yes : ∀ st1,FRel G w a st1 → vcOp E o (vcOps E ops rest K) st1 → Region.wanted o (yielded ops a.tmps) = true → wpListIn (fen r) 0 E.P ops Q (o :: rest) a w := by
   intro st1 hf1 h hw
   unfold wpListIn
   rw [if_pos hw]
   exact (vcOp_sound hE h hd1 hi hf1 hs fun a' w' G' st' hx hi' hf' hs' hk =>
    vcOps_sound hE rest hk hd2 hi' hf' hs' fun a'' w'' G'' st'' hx' hi'' hf'' hs'' hk' => hQ a'' w'' G'' st'' (hx.trans hx') hi'' hf'' hs'' hk')
  have no : ∀ st1,FRel G w a st1 → vcOps E ops rest K (st1.put o.dst undefS false) → Region.wanted o (yielded ops a.tmps) = false → wpListIn (fen r) 0 E.P ops Q (o :: rest) a w := by
   intro st1 ⟨β,R,hf1⟩ h hw
   unfold wpListIn
   rw [if_neg (by rw [hw]; simp)]
   have hd' : ∀ t,o.dst = some t → t < a.tmps.size := fun t ht => by rw [hs]; simpa [dstOk,ht] using hd1
   refine ⟨fun _ _ => fen_fn r _,?_⟩
   exact vcOps_sound hE rest h hd2 hi ⟨β,R,hf1.put hd' (x := undefS) (v := undef) (rep_undef _ _) (fun i h => h.elim)⟩ (by rw [put_size]; exact hs) hQ
  unfold vcOps vcGuard at h
  split at h
  ·rename_i hg
   exact yes st hf h (by simp [Region.wanted,hg])
  ·rename_i j want hg
   split at h
   ·exact h.elim
   ·rename_i d hj
    obtain ⟨β,R,hfb⟩ := hf
    have hv := hfb.vals d
    split at h
    ·rename_i b hb
     rw [ite_both] at h
     rw [hb] at hv
     have hval := getD_some (rep_bool (srep_v hv)) (by simp [undef])
     have hy : yielded ops a.tmps j = some b := by
      unfold yielded
      rw [show (ops[j]?).bind (·.dst) = some d from hj]
      simp [hval]
     by_cases e : b = want
     ·subst e
      have hst : ({ st with vals := upd st.vals d (.v (.bool b)) } : St) = st := by rw [← hb,upd_self]
      have h1 := h.1 rfl
      rw [hst] at h1
      exact yes st ⟨β,R,hfb⟩ h1 (by simp [Region.wanted,hg,hy])
     ·have e' : b = !want := by cases b <;> cases want <;> simp_all
      have hst : ({ st with vals := upd st.vals d (.v (.bool !want)) } : St) = st := by rw [← e',← hb,upd_self]
      have h2 := h.2 e'
      rw [hst] at h2
      exact no st ⟨β,R,hfb⟩ h2 (by simp [Region.wanted,hg,hy,e'])
    ·rename_i hb
     rw [hb] at hv
     have hval := rep_nilundef (srep_v hv)
     have hy : yielded ops a.tmps j = none := by
      unfold yielded
      rw [show (ops[j]?).bind (·.dst) = some d from hj]
      by_cases hlt : d < a.tmps.size
      ·have : a.tmps[d]? = some undef := by
        rw [Array.getElem?_eq_getElem hlt]
        simp [Array.getD,hlt] at hval
        rw [hval]
       simp [this,undef]
      ·simp [Array.getElem?_eq_none (Nat.le_of_not_lt hlt)]
     exact no st ⟨β,R,hfb⟩ h (by simp [Region.wanted,hg,hy])
    ·exact h.elim
theorem vc_sound (hE : EnvOk E) : ∀ (c : Code) {K : Exit → St → Prop} {st : St},codeOk n c = true → vc E n c K st → AWp E n c K st
 | .skip,K,st,_,h => awp_here h fun _ _ _ _ _ _ hq => wpIn_skip hq
 | .region id ops false,K,st,hc,h => by
  unfold vc at h
  split at h
  ·exact (ACut.does h hc id).mono fun e st' ⟨he,hk⟩ => by subst he; exact hk
  ·exact fun r hrd G w a hi hf hs => wpIn_region_list (vcOps_sound hE ops.toList h hc hi hf hs fun a' w' G' st' hx hi' hf' hs' hk => ⟨G',st',hx.toL,hi',hf',hs',hk⟩)
 | .region id ops true,K,st,hc,h => (ADraw.does h hc id).mono fun e st' ⟨he,hk⟩ => by subst he; exact hk
 | .seq x y,K,st,hc,h => by
  simp only [codeOk,Bool.and_eq_true] at hc
  refine awp_seq ((vc_sound hE x hc.1 h).mono fun e st' hk => ?_)
  cases e with
  | normal => exact vc_sound hE y hc.2 hk
  | _ => exact hk
 | .cond c x y,K,st,hc,h => by
  simp only [codeOk,Bool.and_eq_true] at hc
  unfold vc at h
  split at h
  ·rename_i b hb
   rw [ite_both] at h
   exact awp_cond hb (fun e => vc_sound hE x hc.1 (h.1 e)) (fun e => vc_sound hE y hc.2 (h.2 e))
  ·exact h.elim
 | .block id x,K,st,hc,h => awp_block (vc_sound hE x hc h)
 | .exit id,K,st,_,h => awp_here h fun _ _ _ _ _ _ hq => wpIn_exit hq
 | .ret,K,st,_,h => awp_here h fun _ _ _ _ _ _ hq => wpIn_ret hq
 | .loop body,K,st,hc,h => ALoop.does h hc
 | .rangeFunc f ps assign body,K,st,_,h => ARange.does h
 | .scope x,K,st,hc,h => awp_scope (vc_sound hE x hc h)
 | .label _,K,st,_,h => awp_here h fun _ _ _ _ _ _ hq => wpIn_label hq
 | .goto _,K,st,_,h => h.elim
 | .refuse _,K,st,_,h => h.elim
end
end Go.Proofs.Ytikodjpbknneoaa.Abs
/- The abstract machine,part 16: the rule for loops; the rule for functions. -/
namespace Go.Proofs.Ytikodjpbknneoaa.Abs
set_option linter.unusedSimpArgs false
open Go Go.RowKit
structure Head where
 vals : List (Nat × SV)
 own : List Nat := []
 loc : List (Nat × List AV) := []
 mem : Mem
def lookV : List (Nat × SV) → Nat → SV
 | [],_ => .v .top
 | (j,x) :: r,i => if i = j then x else lookV r i
def lookL : List (Nat × List AV) → Nat → Option (List AV)
 | [],_ => none
 | (j,x) :: r,i => if i = j then some x else lookL r i
def lookO : List Nat → Nat → Bool
 | [],_ => false
 | j :: r,i => if i = j then true else lookO r i
def Head.st (h : Head) : St := ⟨lookV h.vals,lookO h.own,lookL h.loc,h.mem⟩
def refKey : SV → Option Nat
 | .v _ => none
 | .loc i _ => some i
 | .lslice i _ _ _ => some i
def Head.ok (h : Head) : Bool :=
 (h.vals.all fun p => match refKey p.2 with
  | none => true
  | some i => (h.loc.map (·.1)).contains i) && h.own.all fun s => (h.vals.map (·.1)).contains s
def fitsV (st : St) : List (Nat × SV) → Prop
 | [] => True
 | (i,x) :: r => st.vals i = x ∧ fitsV st r
def fitsO (st : St) : List Nat → Prop
 | [] => True
 | i :: r => st.own i = true ∧ fitsO st r
def fitsL (st : St) : List (Nat × List AV) → Prop
 | [] => True
 | (i,l) :: r => st.loc i = some l ∧ fitsL st r
def Fits (st : St) (h : Head) : Prop := fitsV st h.vals ∧ fitsO st h.own ∧ fitsL st h.loc ∧ st.mem = h.mem
theorem fitsV_look {st : St} : ∀ {l : List (Nat × SV)},fitsV st l → ∀ s,lookV l s = st.vals s ∨ (lookV l s = .v .top ∧ s ∉ l.map (·.1))
 | [],_,s => .inr ⟨rfl,by simp⟩
 | (i,x) :: r,⟨h1,h2⟩,s => by
  unfold lookV
  by_cases e : s = i
  ·subst e; rw [if_pos rfl]; exact .inl h1.symm
  ·rw [if_neg e]
   rcases fitsV_look h2 s with h | ⟨h,h'⟩
   ·exact .inl h
   ·exact .inr ⟨h,by simp [e]; simpa using h'⟩
theorem lookV_mem : ∀ {l : List (Nat × SV)} {s : Nat},s ∈ l.map (·.1) → ∃ x,(s,x) ∈ l ∧ lookV l s = x
 | [],_,h => by simp at h
 | (i,x) :: r,s,h => by
  unfold lookV
  by_cases e : s = i
  ·subst e; exact ⟨x,by simp,if_pos rfl⟩
  ·rw [if_neg e]
   obtain ⟨y,h1,h2⟩ := lookV_mem (l := r) (s := s) (by simpa [e] using h)
   exact ⟨y,by simp [h1],h2⟩
theorem fitsO_look {st : St} : ∀ {l : List Nat},fitsO st l → ∀ s,lookO l s = true → st.own s = true ∧ s ∈ l
 | [],_,s,h => by simp [lookO] at h
 | i :: r,⟨h1,h2⟩,s,h => by
  unfold lookO at h
  by_cases e : s = i
  ·subst e; exact ⟨h1,by simp⟩
  ·rw [if_neg e] at h
   obtain ⟨k1,k2⟩ := fitsO_look h2 s h
   exact ⟨k1,by simp [k2]⟩
theorem fitsL_look {st : St} : ∀ {l : List (Nat × List AV)},fitsL st l → ∀ s c,lookL l s = some c → st.loc s = some c
 | [],_,s,c,h => by simp [lookL] at h
 | (i,x) :: r,⟨h1,h2⟩,s,c,h => by
  unfold lookL at h
  by_cases e : s = i
  ·subst e; rw [if_pos rfl] at h; rw [h1]; exact h
  ·rw [if_neg e] at h; exact fitsL_look h2 s c h
theorem lookL_mem : ∀ {l : List (Nat × List AV)} {i : Nat},i ∈ l.map (·.1) → lookL l i ≠ none
 | [],_,h => by simp at h
 | (j,x) :: r,i,h => by
  unfold lookL
  by_cases e : i = j
  ·rw [if_pos e]; simp
  ·rw [if_neg e]; exact lookL_mem (by simpa [e] using h)
theorem FRel.weaken {G : Gh} {w : World} {a : Act} {st : St} {h : Head} (hf : FRel G w a st) (hfit : Fits st h) (hok : h.ok = true) : FRel G w a h.st := by
 obtain ⟨β,R,hf⟩ := hf
 obtain ⟨f1,f2,f3,f4⟩ := hfit
 unfold Head.ok at hok
 rw [Bool.and_eq_true] at hok
 obtain ⟨o1,o2⟩ := hok
 refine ⟨β,R,⟨hf.defers,fun s => ?_,fun s hs => ?_,fun i l hl => hf.loc i l (fitsL_look f3 i l hl),fun s i hi => ?_,?_,?_,hf.rlt⟩⟩
 ·show SRep _ _ _ (lookV h.vals s) _
  rcases fitsV_look f1 s with e | ⟨e,_⟩
  ·rw [e]; exact hf.vals s
  ·rw [e]; exact .top _
 ·obtain ⟨k1,k2⟩ := fitsO_look f2 s hs
  have hk := List.all_eq_true.1 o2 s k2
  have hk' : s ∈ h.vals.map (·.1) := by simpa using hk
  rcases fitsV_look f1 s with e | ⟨_,e⟩
  ·show Own _ _ _ _ _ (lookV h.vals s)
   rw [e]; exact hf.own s k1
  ·exact absurd hk' e
 ·have hi' : (lookV h.vals s).refs i := hi
  rcases Classical.em (s ∈ h.vals.map (·.1)) with hm | hm
  ·obtain ⟨x,hx,e⟩ := lookV_mem hm
   rw [e] at hi'
   have hk := List.all_eq_true.1 o1 (s,x) hx
   show lookL h.loc i ≠ none
   refine lookL_mem ?_
   cases x with
   | v x => exact hi'.elim
   | loc j off =>
    have : j = i := hi'
    subst this
    simpa [refKey] using hk
   | lslice j off len cap =>
    have : j = i := hi'
    subst this
    simpa [refKey] using hk
  ·rcases fitsV_look f1 s with e | ⟨e,_⟩
   ·have : lookV h.vals s = .v .top := by
     have hn : ∀ (l : List (Nat × SV)),s ∉ l.map (·.1) → lookV l s = .v .top := by
      intro l
      induction l with
      | nil => intro _; rfl
      | cons p r ih =>
       intro hn
       obtain ⟨j,x⟩ := p
       unfold lookV
       simp at hn
       rw [if_neg hn.1]
       exact ih (by simpa using hn.2)
     exact hn _ hm
    rw [this] at hi'; exact hi'.elim
   ·rw [e] at hi'; exact hi'.elim
 ·show MemRep G w h.mem
  rw [← f4]; exact hf.mem
 ·show ∀ b x,h.mem b = some x → _
  rw [← f4]; exact hf.rmem
def Back {α : Type} (I : α → Head) (J : α → Prop) (m : α → Nat) (x : α) (st : St) : Prop := ∃ y,J y ∧ m y < m x ∧ Fits st (I y)
def loopK {α : Type} (I : α → Head) (J : α → Prop) (m : α → Nat) (x : α) (K : Exit → St → Prop) (e : Exit) (st : St) : Prop :=
 match e with
 | .normal => Back I J m x st
 | e => K e st
section
variable {E : Env} {n : Nat} {K : Exit → St → Prop} {st : St}
theorem wpIn_ghost {F : Fence} {k : Nat} {P : Program} {Q : Exit → Act → World → Prop} {a : Act} {w : World} {c : Code} (I : Nat → Act → World → Prop) (n₀ : Nat) (h₀ : I n₀ a w)
  (round : ∀ j a w,I j a w → c.wpIn F k P (Exit.then (fun a' w' => ∃ j',j' < j ∧ I j' a' w') Q) a w) : (Code.loop c).wpIn F k P Q a w := by
 refine wpIn_loop_rounds (n₀ + 1) ?_
 have key : ∀ N j a w,j < N → I j a w → Code.roundsIn F k P c Q N a w := by
  intro N
  induction N with
  | zero => intro j a w h; omega
  | succ N ih =>
   intro j a w h hI
   refine wpIn_mono (round j a w hI) fun e a' w' h' => ?_
   cases e with
   | normal =>
    obtain ⟨j',h1,h2⟩ := h'
    exact ih j' a' w' (by omega) h2
   | _ => exact h'
 exact key _ n₀ a w (by omega) h₀
theorem aloop (hE : EnvOk E) {body : Code} {α : Type} (I : α → Head) (J : α → Prop) (m : α → Nat) (x0 : α) (hok : ∀ x,(I x).ok = true) (h0 : J x0) (hf : Fits st (I x0))
  (hr : ∀ x,J x → vc E n body (loopK I J m x K) (I x).st) : ALoop E n body K st .mk := by
 refine ⟨fun hc r hrd G w a hi hfr hs => ?_⟩
 have hcb : codeOk n body = true := hc
 refine wpIn_ghost (fun k a' w' => ∃ G' x,m x = k ∧ ExtL G w G' w' ∧ Inv G' w' ∧ FRel G' w' a' (I x).st ∧ a'.tmps.size = n ∧ J x)
  (m x0) ⟨G,x0,rfl,ExtL.refl _ _,hi,hfr.weaken hf (hok _),hs,h0⟩ ?_
 rintro k a' w' ⟨G',x,rfl,h1,h2,h3,h4,h5⟩
 refine wpIn_mono (vc_sound hE body hcb (hr x h5) r hrd G' w' a' h2 h3 h4) ?_
 rintro e a'' w'' ⟨G'',st'',k1,k2,k3,k4,k5⟩
 cases e with
 | normal =>
  obtain ⟨y,q1,q2,q3⟩ := k5
  exact ⟨m y,q2,G'',y,rfl,h1.trans k1,k2,k3.weaken q3 (hok _),k4,q1⟩
 | _ => exact ⟨G'',st'',h1.trans k1,k2,k3,k4,k5⟩
theorem acut (hE : EnvOk E) {ops : Array Oper} {K : St → Prop} {α : Type} (I : α → Head) (J : α → Prop) (hok : ∀ x,(I x).ok = true) (h : vcOps E ops ops.toList (fun st' => ∃ x,J x ∧ Fits st' (I x)) st) (hk : ∀ x,J x → K (I x).st) : ACut E n ops K st .mk := by
 refine ⟨fun hc id r hrd G w a hi hf hs => wpIn_region_list (vcOps_sound hE ops.toList h hc hi hf hs ?_)⟩
 rintro a' w' G' st' hx hi' hf' hs' ⟨x,hj,hfit⟩
 exact ⟨G',(I x).st,hx.toL,hi',hf'.weaken hfit (hok x),hs',rfl,hk x hj⟩
def resOne (tmps : Array Value) : ResultVar → Sem Value
 | .tmp t => pure (tmps.getD t undef)
 | .cell p t => do loadVar t (← asAddr (tmps.getD p undef))
theorem results_resOne (fn : Func) (tmps : Array Value) : results fn tmps = (do let vs ← fn.results.mapM (resOne tmps); pure (if h : vs.size = 1 then vs[0] else .tuple vs)) := by
 unfold results
 have : (fun x : ResultVar => (match x with | .tmp t => pure (tmps.getD t undef) | .cell a t => do loadVar t (← asAddr (tmps.getD a undef)) : Sem Value)) = resOne tmps := by
  funext r; cases r <;> rfl
 rw [← this]
 rfl
theorem vcRets_sound (hE : EnvOk E) {G : Gh} {w : World} {β : Nat → Nat} {R : Nat → Role} {a : Act} (hf : FRelB G w β R a st) : ∀ (rs : List ResultVar) {K : List AV → Prop},vcRets E rs st K →
  ∃ l vs,K l ∧ Reps G.com w l vs ∧ (rs.mapM (resOne a.tmps)).run E.P w = .ok vs w
 | [],K,h => ⟨[],[],h,Reps.nil,by simp⟩
 | .tmp t :: rs,K,h => by
  unfold vcRets at h
  split at h
  ·rename_i x hx
   obtain ⟨l,vs,hk,hr,hrun⟩ := vcRets_sound hE hf rs h
   have hv := hf.vals t
   rw [hx] at hv
   have h1 : (resOne a.tmps (.tmp t)).run E.P w = .ok (a.tmps.getD t undef) w := rfl
   exact ⟨_,_,hk,Reps.cons (srep_v hv) hr,by simp only [List.mapM_cons,Sem.run_bind,h1,hrun,Result.andThen_ok,Sem.run_pure]⟩
  ·exact h.elim
 | .cell p t :: rs,K,h => by
  unfold vcRets at h
  obtain ⟨r,z,h,hz,hrun1⟩ := vcLoad_sound hE hf h (hf.vals p)
  obtain ⟨l,vs,hk,hr,hrun⟩ := vcRets_sound hE hf rs h
  have hrun2 : (do loadVar t (← asAddr (a.tmps.getD p undef)) : Sem Value).run E.P w = .ok z w := by
   unfold Instr.loadAt at hrun1
   generalize a.tmps.getD p undef = v at hrun1 ⊢
   cases v with
   | pointer q =>
    cases q with
    | some q => simpa [Instr.sureAddr,asAddr] using hrun1
    | none => simp [Instr.sureAddr,stuck,Sem.run] at hrun1
   | _ => simp [Instr.sureAddr,stuck,Sem.run] at hrun1
  refine ⟨_,_,hk,Reps.cons hz hr,?_⟩
  have h1 : (resOne a.tmps (.cell p t)).run E.P w = .ok z w := hrun2
  simp only [List.mapM_cons,Sem.run_bind,h1,hrun,Result.andThen_ok,Sem.run_pure]
theorem close_marks {F : Fence} {k : Nat} {P : Program} {fn : Func} {tmps : Array Value} {R : Ending → World → Prop} : ∀ (Ds : List Nat) (w : World),Ds.Nodup → (∀ D ∈ Ds,w.heap[D]? = some (.deferred (some []))) →
  (∀ w' : World,w'.heap.size = w.heap.size → (∀ b,b ∉ Ds → w'.heap[b]? = w.heap[b]?) → (∀ (B : Nat) (W : World),Below B W w → (∀ D ∈ Ds,B ≤ D) → Below B W w') → ∃ v,(results fn tmps).run P w' = .ok v w' ∧ R (.returned v) w') →
  LeavesInM F k P fn tmps R (Ds.map fun D => { target := .collected D,args := #[] }) .returning w
 | [],w,_,_,h => by
  obtain ⟨v,h1,h2⟩ := h w rfl (fun _ _ => rfl) (fun _ _ h _ => h)
  exact ⟨v,h1,h2⟩
 | D :: Ds,w,hnd,hD,h => by
  rw [List.nodup_cons] at hnd
  refine ⟨by simp,.inl ⟨D,w.putObj D (.deferred none),rfl,run_takeDeferred (hD D (by simp)),?_⟩⟩
  refine close_marks Ds _ hnd.2 (fun D' hD' => ?_) fun w' hsz hk hbl => ?_
  ·rw [World.putObj_heap_other (by rintro rfl; exact hnd.1 hD')]
   exact hD D' (by simp [hD'])
  ·refine h w' (by rw [hsz]; simp) (fun b hb => ?_) fun B W hB hle => ?_
   ·simp only [List.mem_cons,not_or] at hb
    rw [hk b hb.2,World.putObj_heap_other hb.1]
   ·refine hbl B W ⟨hB.os,hB.tape,hB.output,by simp; exact hB.size,fun k hk' => ?_⟩ fun D' hD' => hle D' (by simp [hD'])
    have := hle D (by simp)
    rw [World.putObj_heap_other (by omega)]
    exact hB.block k hk'
theorem cell_eq {w w' : World} {b i : Nat} (h : w'.heap[b]? = w.heap[b]?) : w'.cell? ⟨b,i,none⟩ = w.cell? ⟨b,i,none⟩ := by
 simp only [World.cell?,h]
theorem acall_intro (hE : EnvOk E) (hrd : E.rd = false) {f : FuncId} {fn : Func} {c : Code} {xs : List AV} {m : Mem} {K : AV → Mem → Prop} (hfn : E.P.funcs[f]? = some fn) (hb : fn.body = some c)
  (hcall : ∀ (args : Array Value) (w : World),(callFunc f args).run E.P w = .ok (.enter f args) w) (hok : codeOk fn.ntmps c = true) (hle : xs.length ≤ fn.ntmps)
  (h : vc E fn.ntmps c (retK E fn.results.toList K) (entry xs m)) : ACall E.P f xs m K := by
 refine ⟨hcall,fun G w vs hi hm hr => ?_⟩
 let Gs : Gh := { G with z := (G.W0,w.heap.size) }
 have his : Inv Gs w := ⟨hi.below,hi.com,hi.lock⟩
 refine callsIn_wide.1 (callsIn_of_wp_marks (n := 0) hfn hb trivial ?_)
 have hlen : vs.length = xs.length := hr.1.symm
 have hsz : (vs.toArray ++ Array.replicate (fn.ntmps - vs.toArray.size) undef).size = fn.ntmps := by simp; omega
 have hf : FRel Gs w ⟨vs.toArray ++ Array.replicate (fn.ntmps - vs.toArray.size) undef,[]⟩ (entry xs m) := by
  refine ⟨fun _ => 0,fun b => if (m b).isSome then .mem else .free,⟨Marks.nil (Nat.le_refl _),fun s => ?_,fun s hs => by simp [entry] at hs,fun i l hl => by simp [entry] at hl,fun s i hs => ?_,hm,fun b x hb => ?_,fun b hb => ?_⟩⟩
  ·show SRep _ _ _ (match xs[s]? with | some x => .v x | none => undefS) _
   by_cases hs : s < xs.length
   ·have hv : s < vs.length := by omega
    rw [List.getElem?_eq_getElem hs]
    have e : (vs.toArray ++ Array.replicate (fn.ntmps - vs.toArray.size) undef).getD s undef = vs[s] := by
     have h1 : s < (vs.toArray ++ Array.replicate (fn.ntmps - vs.toArray.size) undef).size := by rw [hsz]; omega
     rw [Array.getD,dif_pos h1]
     show (vs.toArray ++ Array.replicate (fn.ntmps - vs.toArray.size) undef)[s] = _
     rw [Array.getElem_append_left (by simpa using hv)]
     simp
    show Rep _ _ _ _
    rw [e]
    exact hr.2 s _ _ (List.getElem?_eq_getElem hs) (List.getElem?_eq_getElem hv)
   ·rw [List.getElem?_eq_none (by omega)]
    have e : (vs.toArray ++ Array.replicate (fn.ntmps - vs.toArray.size) undef).getD s undef = undef := by
     rw [Array.getD]
     split
     ·rename_i h1
      show (vs.toArray ++ Array.replicate (fn.ntmps - vs.toArray.size) undef)[s] = _
      rw [Array.getElem_append_right (by simp; omega)]
      simp
     ·rfl
    show Rep _ _ _ _
    rw [e]; exact rep_undef _ _
  ·simp only [entry] at hs
   split at hs <;> exact hs.elim
  ·have : m b = some x := hb
   simp [this]
  ·by_cases h : (m b).isSome
   ·obtain ⟨x,hx⟩ := Option.isSome_iff_exists.1 h
    exact (hm b x hx).2.1
   ·simp [h] at hb
 refine wpIn_mono (vc_sound hE c hok h none hrd.symm Gs w _ his hf hsz) ?_
 rintro e a' w' ⟨G',st',h1,h2,⟨β,R,h3⟩,_,h5⟩
 have fin : vcRet E fn.results.toList K st' → LeavesInM (fen none) 0 E.P fn a'.tmps (fun e w' => ∃ v r m' G',e = .returned v ∧ Ext G w G' w' ∧ Inv G' w' ∧ MemRep G' w' m' ∧ Rep G'.com w' r v ∧ K r m') a'.defers .returning w' := by
  intro h5
  obtain ⟨_,Ds,hDs,hnd,hD⟩ := h3.defers
  rw [hDs]
  have hbase : ∀ D ∈ Ds,w.heap.size ≤ D := fun D h => by
   have := (hD D h).1
   rw [show G'.base = w.heap.size by unfold Gh.base; rw [h1.z]] at this
   exact this
  refine close_marks Ds w' hnd (fun D h => (hD D h).2.2) fun w'' hsz'' hk hbl => ?_
  let Gm : Gh := { G' with lock := fun b => G'.lock b ∧ b ∉ Ds }
  have hW : G'.W0 = G.W0 := by unfold Gh.W0; rw [h1.z]
  have hlow : w.heap.size ≥ G.W0.heap.size := hi.below.size
  have hcells : ∀ b,G'.com b ≠ 0 → b ∉ Ds := fun b hb hbD => by
   obtain ⟨cs,e,fz,hc,_⟩ := h2.com b hb
   rw [(hD b hbD).2.2] at hc; cases hc
  have him : Inv Gm w' := ⟨h2.below,h2.com,fun b hb => h2.lock b hb.1⟩
  have him' : Inv Gm w'' := by
   refine ⟨hbl _ _ h2.below fun D h => ?_,fun b hb => ?_,fun b hb => by rw [hsz'']; exact h2.lock b hb.1⟩
   ·show Gm.W0.heap.size ≤ D
    have e : Gm.W0 = G.W0 := hW
    rw [e]; have := hbase D h; omega
   ·obtain ⟨cs,e,fz,hc,hn⟩ := h2.com b hb
    exact ⟨cs,e,fz,by rw [hk b (hcells b hb)]; exact hc,hn⟩
  have hxm : Ext Gm w' Gm w'' := ⟨rfl,rfl,by rw [hsz'']; exact Nat.le_refl _,fun _ => Nat.le_refl _,fun b i hb => cell_eq (hk b (hcells b (by have : i < G'.com b := hb; omega))),fun b hb => ⟨hk b hb.2,rfl⟩⟩
  have hnl : ∀ b,¬ G'.lock b → b ∉ Ds := fun b hb h => hb (hD b h).2.1
  have hfm : FRelB Gm w' β (fun b => if b ∈ Ds then .free else R b) ⟨a'.tmps,[]⟩ st' := by
   refine ⟨Marks.nil h3.defers.1,h3.vals,fun s hs => ?_,fun i l hl => ?_,h3.ref,fun b x hb => ?_,fun b x hb => ?_,fun b hb => ?_⟩
   ·obtain ⟨sz,l,e,hv⟩ := h3.own s hs
    refine ⟨sz,l,e,hv.imp id ?_⟩
    rintro ⟨b,len,cap,cs,el,k1,k2,k3,k4,k5,k6,k7,k8⟩
    exact ⟨b,len,cap,cs,el,k1,k2,fun h => k3 h.1,k4,k5,k6,k7,by simp only [if_neg (hnl b k3)]; exact k8⟩
   ·obtain ⟨⟨k1,k2,k3,k4⟩,k5⟩ := h3.loc i l hl
    exact ⟨⟨k1,fun h => k2 h.1,k3,k4⟩,by simp only [if_neg (hnl _ k2)]; exact k5⟩
   ·obtain ⟨k1,k2,k3,k4,k5⟩ := h3.mem b x hb
    exact ⟨k1,k2,fun h => k3 h.1,k4,k5⟩
   ·simp only [if_neg (hnl b (h3.mem b x hb).2.2.1)]; exact h3.rmem b x hb
   ·have hb' : (if b ∈ Ds then Role.free else R b) ≠ .free := hb
    split at hb'
    ·exact absurd rfl hb'
    ·exact h3.rlt b hb'
  have hfm' := hfm.ext hxm fun b hb => by
   have hb' : (if b ∈ Ds then Role.free else R b) ≠ .free := hb
   split at hb'
   ·exact absurd rfl hb'
   ·rename_i hn; exact ⟨hk b hn,rfl⟩
  unfold vcRet at h5
  obtain ⟨G1,R1,hx1,hi1,hf1⟩ := freezes_sound (resSlots st' fn.results.toList) him' hfm'
  obtain ⟨l,vs,hk2,hr,hrun⟩ := vcRets_sound hE hf1 _ h5
  have hmem : ∀ (xs : List SV) (st : St),(st.freezes xs).mem = st.mem := by
   intro xs
   induction xs with
   | nil => intro st; rfl
   | cons x xs ih =>
    intro st
    cases x with
    | loc i off =>
     show ((st.freeze i).freezes xs).mem = st.mem
     rw [ih]
     unfold St.freeze
     split <;> rfl
    | _ => exact ih st
  let G2 : Gh := ⟨G1.com,G.lock,G.z⟩
  have hlk : ∀ b,G.lock b → G1.lock b := fun b hb => by
   rw [hx1.lock]
   refine ⟨h1.lock b hb,fun h => ?_⟩
   have := hi.lock b hb
   have := hbase b h
   omega
  have hW2 : G1.W0 = G.W0 := hx1.W0.trans hW
  have hx : Ext G w G2 w'' := by
   refine ⟨rfl,rfl,by rw [hsz'']; exact h1.size,fun b => Nat.le_trans (h1.com b) (hx1.com b),fun b i hb => ?_,fun b hb => ?_⟩
   ·have hb' : i < G'.com b := Nat.lt_of_lt_of_le hb (h1.com b)
    rw [cell_eq (hk b (hcells b (by omega)))]
    exact h1.cell b i hb
   ·have hnd' : b ∉ Ds := fun h => by have := hi.lock b hb; have := hbase b h; omega
    have hlm : Gm.lock b := ⟨h1.lock b hb,hnd'⟩
    exact ⟨(hk b hnd').trans (h1.held b hb).1,(hx1.held b hlm).2.trans (h1.held b hb).2⟩
  have hi2 : Inv G2 w'' := ⟨by have := hi1.below; rw [hW2] at this; exact this,hi1.com,fun b hb => hi1.lock b (hlk b hb)⟩
  refine ⟨(if h : vs.toArray.size = 1 then vs.toArray[0] else .tuple vs.toArray),?_,_,retVal l,st'.mem,G2,rfl,hx,hi2,?_,?_,hk2⟩
  ·rw [results_resOne]
   simp only [Array.mapM_eq_mapM_toList,Sem.run_bind,Sem.run_map,hrun,Result.andThen_ok,Sem.run_pure]
  ·have := hf1.mem
   rw [hmem] at this
   intro b x hb
   obtain ⟨k1,k2,k3,k4,k5⟩ := this b x hb
   exact ⟨by rw [← hW2]; exact k1,k2,fun h => k3 (hlk b h),k4,k5⟩
  ·rcases l with _ | ⟨x,_ | ⟨y,l⟩⟩
   ·obtain rfl := Reps.nil_inv hr
    exact rep_undef _ _
   ·obtain ⟨v,vs',rfl,hv,hr'⟩ := Reps.cons_inv hr
    obtain rfl := Reps.nil_inv hr'
    exact hv
   ·obtain ⟨v,vs',rfl,hv,hr'⟩ := Reps.cons_inv hr
    obtain ⟨v2,vs2,rfl,hv2,hr2⟩ := Reps.cons_inv hr'
    rw [dif_neg (by simp)]
    exact .tuple _ _ hr.1 hr.2
 cases e with
 | normal => exact fin h5
 | ret => exact fin h5
 | _ => exact h5.elim
end
end Go.Proofs.Ytikodjpbknneoaa.Abs
/- The abstract machine,part 20: loops over functions: the statement,and a round. -/
namespace Go.Proofs.Ytikodjpbknneoaa.Abs
set_option linter.unusedSimpArgs false
open Go Go.RowKit
def SV.av : SV → AV
 | .v x => x
 | _ => .top
def rangeK (l : Nat) (K : Exit → St → Prop) (st : St) (m' : Mem) : Prop :=
 match m' l with
 | some (.loop .busy _ _) => False
 | some (.loop _ none _) => K .normal { st with mem := upd m' l none }
 | some (.loop _ (some .ret) _) => K .ret { st with mem := upd m' l none }
 | some (.loop _ (some (.exit i)) _) => K (.exit i) { st with mem := upd m' l none }
 | _ => False
def roundK (l : Nat) (K : AV → Mem → Prop) (e : Exit) (st : St) : Prop :=
 match st.mem l with
 | some (.loop _ _ r) => match e with
  | .normal => K (.bool true) (upd st.mem l (some (.loop .ready none r)))
  | .ret => K (.bool false) (upd st.mem l (some (.loop .done (some .ret) r)))
  | .exit i => K (.bool false) (upd st.mem l (some (.loop .done (some (.exit i)) r)))
  | _ => False
 | _ => False
def laidV (f : Nat → SV) : List (Tmp × AV) → Nat → SV
 | [] => f
 | (t,x) :: r => laidV (upd f t (.v x)) r
def roundSt (r : LoopA) (xs : List AV) (m : Mem) : St where
 vals := laidV (fun i => .v (r.vals i)) (r.ps.toList.zip xs)
 own := fun _ => false
 loc := fun _ => none
 mem := m
def busyK (l : Nat) (K : St → Prop) (st : St) : Prop :=
 match st.mem l with
 | some (.loop .ready j r) => K { st with mem := upd st.mem l (some (.loop .busy j r)) }
 | _ => False
theorem ACall.forget {P : Program} {f : FuncId} {xs : List AV} {m : Mem} {K : AV → Mem → Prop} (h : ACall P f xs m fun r m' => ∃ m'',(∀ b x,m'' b = some x → m' b = some x) ∧ K r m'') : ACall P f xs m K :=
 ⟨h.enters,fun G w vs h1 h2 h3 => (h.does G w vs h1 h2 h3).mono fun _ _ ⟨v,r,_,G',he,hx,hi,hm,hr,m'',hs,hK⟩ => ⟨v,r,m'',G',he,hx,hi,fun b x hb => hm b x (hs b x hb),hr,hK⟩⟩
theorem AYield.mono {P : Program} {l : Nat} {xs : List AV} {m : Mem} {K K' : AV → Mem → Prop} (h : AYield P l xs m K) (hk : ∀ r m',K r m' → K' r m') : AYield P l xs m K' :=
 ⟨fun G w vs h1 h2 h3 => by
  obtain ⟨f,tmps,assign,body,e,hr⟩ := h.does G w vs h1 h2 h3
  exact ⟨f,tmps,assign,body,e,hr.mono fun _ _ ⟨v,r,m',G',he,hx,hi,hm,hr,hK⟩ => ⟨v,r,m',G',he,hx,hi,hm,hr,hk r m' hK⟩⟩⟩
section
variable {E : Env} {G : Gh} {w : World} {β : Nat → Nat} {R : Nat → Role} {a : Act} {st : St} {n : Nat}
theorem FRelB.lessMem (h : FRelB G w β R a st) {m : Mem} (hm : ∀ b x,m b = some x → st.mem b = some x) : FRelB G w β R a { st with mem := m } :=
 ⟨h.defers,h.vals,h.own,h.loc,h.ref,fun b x hb => h.mem b x (hm b x hb),fun b x hb => h.rmem b x (hm b x hb),h.rlt⟩
theorem FRelB.locked (h : FRelB G w β R a st) {D : Nat} (hR : R D = .free) : FRelB { G with lock := fun b => G.lock b ∨ b = D } w β R a st := by
 have ne : ∀ b,R b ≠ .free → b ≠ D := fun b hb e => hb (by rw [e]; exact hR)
 refine ⟨h.defers.ext rfl (Nat.le_refl _) (fun b hb => .inl hb) (fun _ _ => rfl),h.vals,fun s hs => ?_,fun i l hl => ?_,h.ref,fun b x hb => ?_,h.rmem,h.rlt⟩
 ·obtain ⟨sz,l,e,hv⟩ := h.own s hs
  refine ⟨sz,l,e,hv.imp id ?_⟩
  rintro ⟨b,len,cap,cs,el,k1,k2,k3,k4,k5,k6,k7,k8⟩
  exact ⟨b,len,cap,cs,el,k1,k2,fun hb => hb.elim k3 (ne b (by rw [k8]; simp)),k4,k5,k6,k7,k8⟩
 ·obtain ⟨⟨k1,k2,k3,k4⟩,k5⟩ := h.loc i l hl
  exact ⟨⟨k1,fun hb => hb.elim k2 (ne _ (by rw [k5]; simp)),k3,k4⟩,k5⟩
 ·obtain ⟨k1,k2,k3,k4,k5⟩ := h.mem b x hb
  exact ⟨k1,k2,fun hb' => hb'.elim k3 (ne b (by rw [h.rmem b x hb]; simp)),k4,k5⟩
theorem laidV_sound {com : Nat → Nat} : ∀ (ps : List Tmp) (xs : List AV) (vs : List Value) (tmps : Array Value) (f : Nat → SV),(∀ t ∈ ps,t < tmps.size) → xs.length = ps.length → Reps com w xs vs →
  (∀ s,SRep com w β (f s) (tmps.getD s undef)) → (∀ s i,¬ (f s).refs i) →
  (∀ s,SRep com w β (laidV f (ps.zip xs) s) (((ps.zip vs).foldl (fun tmps (t,a) => tmps.setIfInBounds t a) tmps).getD s undef)) ∧ (∀ s i,¬ (laidV f (ps.zip xs) s).refs i) ∧
   ((ps.zip vs).foldl (fun tmps (t,a) => tmps.setIfInBounds t a) tmps).size = tmps.size
 | [],_,_,tmps,f,_,_,_,h,h' => ⟨h,h',rfl⟩
 | t :: ps,[],_,_,_,_,hl,_,_,_ => by simp at hl
 | t :: ps,x :: xs,vs,tmps,f,ht,hl,hr,h,h' => by
  obtain ⟨v,vs',rfl,hv,hr'⟩ := Reps.cons_inv hr
  have hlt := ht t (by simp)
  have := laidV_sound ps xs vs' (tmps.setIfInBounds t v) (upd f t (.v x)) (fun t' ht' => by simp; exact ht t' (by simp [ht'])) (by simpa using hl) hr' (fun s => ?_) (fun s i => ?_)
  ·simp only [List.zip_cons_cons,laidV,List.foldl_cons]
   simpa using this
  ·by_cases e : s = t
   ·subst e
    rw [upd_same]
    simp [Array.getD,hlt]
    exact hv
   ·rw [upd_ne _ _ e]
    have e1 : (tmps.setIfInBounds t v).getD s undef = tmps.getD s undef := by
     have h' : t ≠ s := fun h => e h.symm
     simp [Array.getElem?_setIfInBounds_ne h']
    rw [e1]; exact h s
  ·by_cases e : s = t
   ·subst e; rw [upd_same]; exact id
   ·rw [upd_ne _ _ e]; exact h' s i
theorem ayield (hE : EnvOk E) (hrd : E.rd = true) {l : Nat} {m : Mem} {j : Option Code} {r : LoopA} {xs : List AV} {K : AV → Mem → Prop} (hl : m l = some (.loop .ready j r)) (hx : xs.length = r.ps.size)
  (hps : r.ps.toList.all (fun t => decide (t < r.n)) = true) (hca : codeOk r.n r.assign = true) (hcb : codeOk r.n r.body = true)
  (h : vc E r.n r.assign (fun e st1 => match e with | .normal => busyK l (vc E r.n r.body (roundK l K)) st1 | _ => False) (roundSt r xs m)) : AYield E.P l xs m K := by
 refine ⟨fun G w vs hi hm hr => ?_⟩
 obtain ⟨m1,m2,m3,m4,fn,tmps,d,hb,hsz,hv⟩ := hm l _ hl
 have hlen : vs.length = r.ps.size := hr.1.symm.trans hx
 have hy := run_yield (P := E.P) (args := vs.toArray) hb (by simp [hlen])
 refine ⟨_,_,_,_,hy,?_⟩
 let Gs : Gh := { G with z := (G.W0,w.heap.size) }
 have his : Inv Gs w := ⟨hi.below,hi.com,hi.lock⟩
 obtain ⟨l1,l2,l3⟩ := laidV_sound (w := w) (β := fun _ => 0) (com := G.com) r.ps.toList xs vs tmps (fun i => .v (r.vals i)) (fun t ht => by rw [hsz]; simpa using List.all_eq_true.1 hps t ht) (by simpa using hx) hr (fun s => hv s) (fun _ _ h => h)
 have e0 : (r.ps.zip vs.toArray).foldl (fun tmps (t,a) => tmps.setIfInBounds t a) tmps = (r.ps.toList.zip vs).foldl (fun tmps (t,a) => tmps.setIfInBounds t a) tmps := by
  rw [← Array.foldl_toList]; simp
 show RoundIn Fence.wide 0 E.P l fn ((r.ps.zip vs.toArray).foldl (fun tmps (t,a) => tmps.setIfInBounds t a) tmps) r.assign r.body w _
 rw [e0]
 generalize (r.ps.toList.zip vs).foldl (fun tmps (t,a) => tmps.setIfInBounds t a) tmps = tmps1 at l1 l3
 have hf : FRel Gs w ⟨tmps1,[]⟩ (roundSt r xs m) := by
  refine ⟨fun _ => 0,fun b => if (m b).isSome then .mem else .free,⟨Marks.nil (Nat.le_refl _),l1,fun s hs => by simp [roundSt] at hs,fun i l hl => by simp [roundSt] at hl,fun s i hs => (l2 s i hs).elim,hm,fun b x hb => ?_,fun b hb => ?_⟩⟩
  ·have : m b = some x := hb
   simp [this]
  ·by_cases h : (m b).isSome
   ·obtain ⟨x,hx⟩ := Option.isSome_iff_exists.1 h
    exact (hm b x hx).2.1
   ·simp [h] at hb
 refine roundIn_of_wpIn trivial (wpIn_mono (vc_sound hE _ hca h (some l) hrd.symm Gs w _ his hf (by rw [l3]; exact hsz)) ?_)
 rintro e a1 w1 ⟨G1,st1,x1,i1,⟨β1,R1,f1⟩,s1,k1⟩
 cases e with
 | normal =>
  simp only [Exit.then]
  have k1 : busyK l (vc E r.n r.body (roundK l K)) st1 := k1
  unfold busyK at k1
  split at k1
  ·rename_i j1 r1 hl1
   obtain ⟨_,q2,_,_,fn1,tm1,d1,q3,q4,q5⟩ := f1.mem l _ hl1
   refine ⟨_,run_beginRound q3 rfl,?_⟩
   obtain ⟨y1,y2,y3⟩ := f1.mset i1 hl1 (o := .loop { state := .busy,pending := j1,fn := fn1,tmps := tm1,params := r1.ps,assign := r1.assign,body := r1.body,defers := d1 }) (y := .loop .busy j1 r1)
    (fun w' hw' hx' => ⟨fn1,tm1,d1,hw',q4,fun i => (q5 i).ext hx'⟩) none (fun t ht => by cases ht)
   refine wpIn_mono (vc_sound hE _ hcb k1 (some l) hrd.symm G1 _ a1 y2 ⟨β1,R1,y3⟩ s1) ?_
   rintro e a2 w2 ⟨G2,st2,x2,i2,⟨β2,R2,f2⟩,s2,k2⟩
   have fin : ∀ (jump : Option Code) (j2 : Option Code) (sx : LoopState) (r2 : LoopA),st2.mem l = some (.loop sx j2 r2) → K (.bool jump.isNone) (upd st2.mem l (some (.loop (if jump.isNone then .ready else .done) jump r2))) →
     ∃ v w',(Instr.endRound l jump).run E.P w2 = .ok v w' ∧ ∃ v' r m' G',Ending.returned v = .returned v' ∧ Ext G w G' w' ∧ Inv G' w' ∧ MemRep G' w' m' ∧ Rep G'.com w' r v' ∧ K r m' := by
    intro jump j2 sx r2 hl2 hk
    obtain ⟨_,_,_,_,fn2,tm2,d2,p3,p4,p5⟩ := f2.mem l _ hl2
    refine ⟨_,_,run_endRound jump p3,?_⟩
    obtain ⟨z1,z2,z3⟩ := f2.mset i2 hl2 (o := .loop { state := if jump.isNone then .ready else .done,pending := jump,fn := fn2,tmps := tm2,params := r2.ps,assign := r2.assign,body := r2.body,defers := d2 })
     (y := .loop (if jump.isNone then .ready else .done) jump r2) (fun w' hw' hx' => ⟨fn2,tm2,d2,hw',p4,fun i => (p5 i).ext hx'⟩) none (fun t ht => by cases ht)
    have xall : ExtL Gs w G2 _ := (x1.trans y1.toL).trans (x2.trans z1.toL)
    have hz : G2.W0 = G.W0 := by
     have := xall.z
     unfold Gh.W0; rw [this]
    refine ⟨_,.bool jump.isNone,_,⟨G2.com,G.lock,G.z⟩,rfl,?_,?_,?_,.bool _,hk⟩
    ·exact ⟨rfl,rfl,xall.size,xall.com,xall.cell,xall.held⟩
    ·exact ⟨by have := z2.below; rw [hz] at this; exact this,z2.com,fun b hb => z2.lock b (xall.lock b hb)⟩
    ·intro b x hb
     obtain ⟨k1,k2,k3,k4,k5⟩ := z3.mem b x hb
     exact ⟨by rw [← hz]; exact k1,k2,fun hl => k3 (xall.lock b hl),k4,k5⟩
   unfold roundK at k2
   split at k2
   ·rename_i sx j2 r2 hl2
    cases e with
    | normal => exact fin none j2 sx r2 hl2 k2
    | ret => exact fin (some .ret) j2 sx r2 hl2 k2
    | exit id => exact fin (some (.exit id)) j2 sx r2 hl2 k2
    | goto t => exact k2.elim
    | panic c => exact k2.elim
    | outgrown => exact k2.elim
   ·exact k2.elim
  ·exact k1.elim
 | _ => exact k1.elim
theorem arange (hrd : E.rd = false) {g : Operand} {ps : Array Tmp} {assign body : Code} {K : Exit → St → Prop} {f : FuncId} {first caps : List AV} (hg : st.sv E.T 0 g = .v (.fn (.func f) first caps))
  (h : ∀ l,st.mem l = none → ACall E.P f (first ++ [.fn (.yield l) [] []] ++ caps) (upd st.mem l (some (.loop .ready none ⟨ps,assign,body,n,fun i => (st.vals i).av⟩))) fun _ m' => rangeK l K st m') :
  ARange E n g ps assign body K st .mk := by
 refine ⟨fun r hr G w a hi ⟨β,R,hf⟩ hs => ?_⟩
 have hr' : r = none := by cases r with | none => rfl | some x => rw [hrd] at hr; cases hr
 subst hr'
 -- the block for deferred calls
 have hfree : R w.heap.size = .free := by
  cases e : R w.heap.size with
  | free => rfl
  | _ => have := hf.rlt _ (by rw [e]; simp); omega
 have h0 : G.com w.heap.size = 0 := hi.com_new (Nat.le_refl _)
 obtain ⟨x1,i1⟩ := alloc_grow hi (.deferred (some [])) 0 (fun h => absurd rfl h)
 have f1 := hf.alloc hi (.deferred (some [])) 0 (fun h => absurd rfl h)
 rw [setCom_zero G h0] at x1 i1 f1
 have f1 := f1.locked hfree
 let G1 : Gh := { G with lock := fun b => G.lock b ∨ b = w.heap.size }
 have i1' : Inv G1 (w.alloc (.deferred (some []))) := ⟨i1.below,i1.com,fun b hb => by
  rcases hb with hb | rfl
  ·exact i1.lock b hb
  ·simp⟩
 have hD : (w.alloc (.deferred (some []))).heap[w.heap.size]? = some (.deferred (some [])) := heap_alloc_new _ _
 let a1 : Act := { a with defers := [{ target := .collected w.heap.size,args := #[] }] ++ a.defers }
 have f1' : FRelB G1 (w.alloc (.deferred (some []))) β R a1 st := by
  obtain ⟨d0,Ds,d1,d2,d3⟩ := f1.defers
  have hb0 : G.base ≤ w.heap.size := hf.defers.1
  refine ⟨⟨d0,w.heap.size :: Ds,by simp [a1,d1],List.nodup_cons.2 ⟨fun hm => ?_,d2⟩,fun D hD' => ?_⟩,f1.vals,f1.own,f1.loc,f1.ref,f1.mem,f1.rmem,f1.rlt⟩
  ·obtain ⟨_,Ds',e1,_,e3⟩ := hf.defers
   have : w.heap.size ∈ Ds' := by
    have : Ds = Ds' := by
     have := d1.symm.trans e1
     exact (List.map_inj_right (fun x y h => by simpa using h)).1 this
    rw [← this]; exact hm
   have := hi.lock _ (e3 _ this).2.1
   omega
  ·rcases List.mem_cons.1 hD' with rfl | hD'
   ·exact ⟨hb0,.inr rfl,hD⟩
   ·exact d3 D hD'
 -- the record
 generalize hw1 : w.alloc (.deferred (some [])) = w1 at *
 have hsz1 : w1.heap.size = w.heap.size + 1 := by rw [← hw1]; simp
 have xl : ExtL G w G1 w1 := ⟨rfl,fun b hb => .inl hb,x1.size,x1.com,x1.cell,x1.held⟩
 clear f1 x1 i1 hf
 refine wpIn_rangeFunc fun fn _ => ?_
 obtain ⟨hn,x2,i2,β2,R2,f2⟩ := f1'.fresh i1' (d := none) (fun t ht => by cases ht) (x := .nilptr) (v := .pointer none)
  (o := .loop { state := .ready,pending := none,fn,tmps := a.tmps,params := ps,assign,body,defers := w.heap.size }) (y := .loop .ready none ⟨ps,assign,body,n,fun i => (st.vals i).av⟩)
  (fun w' hw' hx' => ⟨fn,a.tmps,w.heap.size,hw',hs,fun i => by
   have := f1'.vals i
   show Rep _ _ (st.vals i).av _
   revert this
   generalize st.vals i = x
   cases x with
   | v x => exact fun h => Rep.ext hx' h
   | _ => exact fun _ => .top _⟩) (fun _ _ => .nilptr)
 have hl1 : w.heap.size + 1 = w1.heap.size := hsz1.symm
 rw [← hl1] at hn f2
 have hfv := f2.eval E.T 0 g
 have hgsv : (St.eff st none (.mput .nilptr (w.heap.size + 1) (.loop .ready none ⟨ps,assign,body,n,fun i => (st.vals i).av⟩))).sv E.T 0 g = .v (.fn (.func f) first caps) := hg
 rw [hgsv] at hfv
 obtain ⟨fs,cs,hval,hrf,hrc⟩ := rep_fn (srep_v hfv)
 have hval' : a.eval g = .func (.func f) fs.toArray cs.toArray := hval
 have hall := (hrf.append (Reps.cons (Rep.fn (.yield (w.heap.size + 1)) [] [] [] [] rfl rfl (fun i x v h => by simp at h) (fun i x v h => by simp at h)) Reps.nil)).append hrc
 have hA := h _ hn
 have hcall := call_sound i2 f2 (E := E) hA hall
 let W2 : World := w1.alloc (.loop { state := .ready,pending := none,fn,tmps := a.tmps,params := ps,assign,body,defers := w.heap.size })
 refine ⟨w.heap.size + 1,[{ target := .collected w.heap.size,args := #[] }],W2,⟨.fn (.func f) cs.toArray,fs.toArray ++ #[.func (.yield (w.heap.size + 1)) #[] #[]]⟩,W2,f,fs.toArray ++ #[.func (.yield (w.heap.size + 1)) #[] #[]] ++ cs.toArray,W2,?_,?_,fun _ _ => fen_fn none _,?_,fen_depth none,?_⟩
 ·have := run_enterLoop_outer (P := E.P) (w := w) fn a.tmps ps assign body
  rw [hw1] at this
  exact this
 ·have hval2 : Act.eval a g = Value.func (.func f) fs.toArray cs.toArray := hval
  have hk : Act.eval a (.const (.func (.yield (w.heap.size + 1)) #[] #[])) = .func (.yield (w.heap.size + 1)) #[] #[] := rfl
  have hm : Array.map (Act.eval a) #[Operand.const (.func (.yield (w.heap.size + 1)) #[] #[])] = #[.func (.yield (w.heap.size + 1)) #[] #[]] := by simp [hk]
  simp only [resolve,rangeCall,hval2,Deferred.ofValue,hm]
  rfl
 ·show (invoke _ _).run _ _ = _
  unfold invoke
  exact hA.enters _ _
 ·have e2 : (fs.toArray ++ #[Value.func (.yield (w.heap.size + 1)) #[] #[]] ++ cs.toArray) = (fs ++ [Value.func (.yield (w.heap.size + 1)) #[] #[]] ++ cs).toArray := by
   apply Array.ext'; simp
  rw [e2]
  refine (calls_fen hcall).mono ?_
  rintro e w3 ⟨v,r,m',G3,R3,rfl,x3,i3,f3,_,hK⟩
  have fin : ∀ (c : Option Code) (sx : LoopState) (r3 : LoopA),sx ≠ .busy → m' (w.heap.size + 1) = some (.loop sx c r3) → ∃ w4,(Instr.endLoop (w.heap.size + 1)).run E.P w3 = .ok c w4 ∧ ExtL G w G3 w4 ∧ Inv G3 w4 ∧ FRel G3 w4 a1 { st with mem := upd m' (w.heap.size + 1) none } := by
   intro c sx r3 hb hl3
   obtain ⟨_,_,_,_,fn2,tm2,d2,p3,p4,p5⟩ := f3.mem _ _ hl3
   refine ⟨_,run_endLoop p3 hb,?_⟩
   obtain ⟨z1,z2,z3⟩ := f3.mset i3 hl3 (o := .loop { state := .exhausted,pending := c,fn := fn2,tmps := tm2,params := r3.ps,assign := r3.assign,body := r3.body,defers := d2 })
    (y := .loop .exhausted c r3) (fun w' hw' hx' => ⟨fn2,tm2,d2,hw',p4,fun i => (p5 i).ext hx'⟩) none (fun t ht => by cases ht)
   refine ⟨xl.trans ((x2.trans x3).trans z1).toL,z2,β2,R3,?_⟩
   exact z3.lessMem (m := upd m' (w.heap.size + 1) none) fun b x hb => by
    by_cases e : b = w.heap.size + 1
    ·subst e; rw [upd_same] at hb; cases hb
    ·rw [upd_ne _ _ e] at hb
     show upd m' (w.heap.size + 1) _ b = some x
     rw [upd_ne _ _ e]; exact hb
  have hsz3 : a1.tmps.size = n := hs
  unfold rangeK at hK
  split at hK
  ·exact hK.elim
  ·rename_i sx r3 hb hl3
   obtain ⟨w4,q1,q2,q3,q4⟩ := fin none sx r3 (fun e => by subst e; exact hb rfl) hl3
   exact ⟨none,w4,q1,G3,_,q2,q3,q4,hsz3,hK⟩
  ·rename_i sx r3 hb hl3
   obtain ⟨w4,q1,q2,q3,q4⟩ := fin (some .ret) sx r3 (fun e => by subst e; exact hb rfl) hl3
   exact ⟨some .ret,w4,q1,wpIn_ret ⟨G3,_,q2,q3,q4,hsz3,hK⟩⟩
  ·rename_i sx i r3 hb hl3
   obtain ⟨w4,q1,q2,q3,q4⟩ := fin (some (.exit i)) sx r3 (fun e => by subst e; exact hb rfl) hl3
   exact ⟨some (.exit i),w4,q1,wpIn_exit ⟨G3,_,q2,q3,q4,hsz3,hK⟩⟩
  ·exact hK.elim
end
end Go.Proofs.Ytikodjpbknneoaa.Abs
/- The abstract machine,part 17: how it is shown that what is said of a type is so. -/
namespace Go.Proofs.Ytikodjpbknneoaa.Abs
set_option linter.unusedSimpArgs false
open Go Go.RowKit
theorem rep_agg_of {com : Nat → Nat} {w : World} {l : List AV} {vs : Array Value} (h : Reps com w l vs.toList) : Rep com w (.agg l) (.agg vs) := by
 have := Rep.agg l vs.toList h.1 h.2
 simpa using this
section
variable {P : Program} {t : TypeId} {f : TypeInfo}
theorem tyOk_int {k : IntKind} (h : P.info? t = some f) (hs : f.size = 1) (hz : f.zero = some (.int k 0)) (hu : P.underlying t = some (.int k)) {b : Nat} (hb : f.bytes = b) : TyOk P t ⟨.int k,1,b,[.int k 0]⟩ where
 ex := ⟨f,_,_,h,hs,hb,hz,hu,rfl,fun _ _ => .int _ _,by simp [TyI.agg]⟩
 zc := ⟨rfl,rfl,rfl,rfl⟩
 pl fields hf := by rw [hu] at hf; simp at hf
theorem tyOk_bool (h : P.info? t = some f) (hs : f.size = 1) (hz : f.zero = some (.bool false)) (hu : P.underlying t = some .bool) {b : Nat} (hb : f.bytes = b) : TyOk P t ⟨.bool,1,b,[.bool false]⟩ where
 ex := ⟨f,_,_,h,hs,hb,hz,hu,trivial,fun _ _ => .bool _,by simp [TyI.agg]⟩
 zc := ⟨rfl,rfl,rfl,rfl⟩
 pl fields hf := by rw [hu] at hf; simp at hf
theorem tyOk_string (h : P.info? t = some f) (hs : f.size = 1) (hz : f.zero = some (.string ByteArray.empty)) (hu : P.underlying t = some .string) {b : Nat} (hb : f.bytes = b) : TyOk P t ⟨.string,1,b,[.str ByteArray.empty]⟩ where
 ex := ⟨f,_,_,h,hs,hb,hz,hu,trivial,fun _ _ => .str _,by simp [TyI.agg]⟩
 zc := ⟨rfl,rfl,rfl,rfl⟩
 pl fields hf := by rw [hu] at hf; simp at hf
theorem tyOk_slice {e sz : Nat} (h : P.info? t = some f) (hs : f.size = 1) (hz : f.zero = some (.slice none 0 0)) (hu : P.underlying t = some (.slice e)) {b : Nat} (hb : f.bytes = b) : TyOk P t ⟨.slice e,1,b,[.slice sz []]⟩ where
 ex := ⟨f,_,_,h,hs,hb,hz,hu,rfl,fun _ _ => .nilslice _,by simp [TyI.agg]⟩
 zc := ⟨rfl,rfl,rfl,rfl⟩
 pl fields hf := by rw [hu] at hf; simp at hf
theorem tyOk_sliceN {e : Nat} (h : P.info? t = some f) (hs : f.size = 1) (hz : f.zero = some (.slice none 0 0)) (hu : P.underlying t = some (.slice e)) {b : Nat} (hb : f.bytes = b) : TyOk P t ⟨.slice e,1,b,[.mslice 0 0 0 0]⟩ where
 ex := ⟨f,_,_,h,hs,hb,hz,hu,rfl,fun _ _ => .nilm _ _,by simp [TyI.agg]⟩
 zc := ⟨rfl,rfl,rfl,rfl⟩
 pl fields hf := by rw [hu] at hf; simp at hf
theorem tyOk_map {k e : Nat} (h : P.info? t = some f) (hs : f.size = 1) (hz : f.zero = some (.map none)) (hu : P.underlying t = some (.map k e)) {b : Nat} (hb : f.bytes = b) : TyOk P t ⟨.map k e,1,b,[.nilmap]⟩ where
 ex := ⟨f,_,_,h,hs,hb,hz,hu,⟨rfl,rfl⟩,fun _ _ => .nilmap,by simp [TyI.agg]⟩
 zc := ⟨rfl,rfl,rfl,rfl⟩
 pl fields hf := by rw [hu] at hf; simp at hf
theorem tyOk_ptr {e : Nat} (h : P.info? t = some f) (hs : f.size = 1) (hz : f.zero = some (.pointer none)) (hu : P.underlying t = some (.pointer e)) {b : Nat} (hb : f.bytes = b) : TyOk P t ⟨.one,1,b,[.nilptr]⟩ where
 ex := ⟨f,_,_,h,hs,hb,hz,hu,trivial,fun _ _ => .nilptr,by simp [TyI.agg]⟩
 zc := ⟨rfl,rfl,rfl,rfl⟩
 pl fields hf := by rw [hu] at hf; simp at hf
theorem tyOk_func {ps rs : Array TypeId} {v : Bool} (h : P.info? t = some f) (hs : f.size = 1) (hz : f.zero = some .nilFunc) (hu : P.underlying t = some (.func ps rs v)) {b : Nat} (hb : f.bytes = b) : TyOk P t ⟨.one,1,b,[.nilfunc]⟩ where
 ex := ⟨f,_,_,h,hs,hb,hz,hu,trivial,fun _ _ => .nilfunc,by simp [TyI.agg]⟩
 zc := ⟨rfl,rfl,rfl,rfl⟩
 pl fields hf := by rw [hu] at hf; simp at hf
theorem tyOk_array {n e : Nat} {zs : List AV} {vs : Array Value} (h : P.info? t = some f) (hz : f.zero = some (.agg vs)) (hu : P.underlying t = some (.array n e)) {b : Nat} (hb : f.bytes = b)
  {s : Nat} (hs : f.size = s) (hr : ∀ com w,Reps com w zs vs.toList) (hl : zs.length = s) (hfl : zs.all flat = true) : TyOk P t ⟨.array n e,s,b,zs⟩ where
 ex := ⟨f,_,_,h,hs,hb,hz,hu,⟨rfl,rfl⟩,fun com w => rep_agg_of (hr com w),by simp [TyI.agg]⟩
 zc := ⟨rfl,rfl,hl,hfl⟩
 pl fields hf := by rw [hu] at hf; simp at hf
theorem tyOk_struct {fields : Array Field} {fs : List (Nat × TypeId)} {zs : List AV} {vs : Array Value} (h : P.info? t = some f) (hz : f.zero = some (.agg vs)) (hu : P.underlying t = some (.struct fields)) {b : Nat} (hb : f.bytes = b)
  {s : Nat} (hs : f.size = s) (hfs : fields.toList.map (fun f => (f.offset,f.type)) = fs) (hr : ∀ com w,Reps com w zs vs.toList) (hl : zs.length = s) (hfl : zs.all flat = true)
  (hp : (fields.toList.mapM (fun f => (P.info? f.type).map fun i => (f.offset,i.size))).isSome = true) : TyOk P t ⟨.struct fs,s,b,zs⟩ where
 ex := ⟨f,_,_,h,hs,hb,hz,hu,hfs,fun com w => rep_agg_of (hr com w),by simp [TyI.agg]⟩
 zc := ⟨rfl,rfl,hl,hfl⟩
 pl fields' hf := by rw [hu] at hf; simp at hf; subst hf; exact Option.isSome_iff_exists.1 hp
end
end Go.Proofs.Ytikodjpbknneoaa.Abs
/- The abstract machine,part 21: memory that never changes from here on (melt). -/
namespace Go.Proofs.Ytikodjpbknneoaa.Abs
set_option linter.unusedSimpArgs false
open Go Go.RowKit
def meltA (b sz : Nat) (es : List AV) : AV → AV
 | .mslice b' 0 n c => if b' = b ∧ n = es.length ∧ n ≤ c ∧ c ≤ maxLen then .slice sz es else .mslice b' 0 n c
 | x => x
def meltV (b sz : Nat) (es : List AV) : SV → SV
 | .v x => .v (meltA b sz es x)
 | y => y
def St.melt (st : St) (b sz : Nat) (es : List AV) : St where
 vals := fun s => meltV b sz es (st.vals s)
 own := st.own
 loc := fun i => (st.loc i).map (List.map (meltA b sz es))
 mem := upd st.mem b none
theorem Reps.split {com : Nat → Nat} {w : World} : ∀ {l l' : List AV} {cs : List Value},Reps com w (l ++ l') cs → ∃ c c',cs = c ++ c' ∧ Reps com w l c ∧ Reps com w l' c'
 | [],l',cs,h => ⟨[],cs,rfl,Reps.nil,h⟩
 | x :: l,l',cs,h => by
  obtain ⟨v,cs',rfl,hv,h⟩ := Reps.cons_inv h
  obtain ⟨c,c',rfl,h1,h2⟩ := Reps.split h
  exact ⟨v :: c,c',rfl,Reps.cons hv h1,h2⟩
theorem row_flatten {com : Nat → Nat} {w : World} {sz : Nat} : ∀ {es : List AV} {cs : List Value},(∀ e ∈ es,e.cells.length = sz) → Reps com w (es.map AV.cells).flatten cs → RowRep com w sz es cs
 | [],cs,_,h => by
  obtain rfl := Reps.nil_inv h
  exact RowRep.nil sz
 | e :: es,cs,hs,h => by
  obtain ⟨c,c',rfl,h1,h2⟩ := Reps.split (l := e.cells) h
  exact RowRep.cons h1 (hs e (by simp)) (row_flatten (fun x hx => hs x (by simp [hx])) h2)
theorem rep_melt {com : Nat → Nat} {w : World} {b sz : Nat} {es : List AV} {cs : List Value} (hr : RowRep com w sz es cs) (hf : ∀ e ∈ es,e.cells.all flat = true) (hc : es.length * sz ≤ com b)
  (hw : ∀ i,i < es.length * sz → w.cell? ⟨b,i,none⟩ = cs[i]?) {x : AV} {v : Value} (h : Rep com w x v) : Rep com w (meltA b sz es x) v := by
 unfold meltA
 split
 ·rename_i b' n c
  split
  ·rename_i hcond
   obtain ⟨rfl,rfl,h1,h2⟩ := hcond
   rcases rep_mslice h with e | ⟨e1,_,e⟩
   ·rw [e]
    exact hr.slice hf h1 h2 (by omega) (fun i hi => by rw [Nat.zero_add]; exact hw i hi)
   ·rw [e,List.eq_nil_of_length_eq_zero e1]
    exact .nilslice sz
  ·exact h
 ·exact h
section
variable {E : Env} {G : Gh} {w : World} {β : Nat → Nat} {R : Nat → Role} {a : Act} {st : St} {n : Nat}
theorem FRelB.melt (h : FRelB G w β R a st) (hi : Inv G w) {b sz : Nat} {es tail : List AV} (hb : st.mem b = some (.cells ((es.map AV.cells).flatten ++ tail))) (hs : ∀ e ∈ es,e.cells.length = sz ∧ e.cells.all flat = true) :
  Ext G w (G.setCom b (es.length * sz)) w ∧ Inv (G.setCom b (es.length * sz)) w ∧ FRelB (G.setCom b (es.length * sz)) w β R a (st.melt b sz es) := by
 obtain ⟨m1,m2,m3,m4,cs,e,m5,m6⟩ := h.mem b _ hb
 have hR := h.rmem b _ hb
 have hx : Ext G w (G.setCom b (es.length * sz)) w := by
  refine ⟨rfl,rfl,Nat.le_refl _,fun k => ?_,fun _ _ _ => rfl,fun k hk => ⟨rfl,?_⟩⟩
  ·by_cases e : k = b
   ·subst e; rw [m4]; exact Nat.zero_le _
   ·simp [Gh.setCom,upd_ne _ _ e]
  ·have : k ≠ b := by rintro rfl; exact m3 hk
   simp [Gh.setCom,upd_ne _ _ this]
 obtain ⟨c,c',rfl,r1,r2⟩ := Reps.split m6
 have hrow : RowRep (G.setCom b (es.length * sz)).com w sz es c := (row_flatten (fun e he => (hs e he).1) r1).mono fun x v h => h.ext hx
 have hlen := hrow.1
 have hcell : ∀ i,i < es.length * sz → w.cell? ⟨b,i,none⟩ = c[i]? := fun i hi => by
  rw [cell_block m5,List.getElem?_append_left (by omega)]
 have hrep : ∀ {x v},Rep G.com w x v → Rep (G.setCom b (es.length * sz)).com w (meltA b sz es x) v := fun hr =>
  rep_melt hrow (fun e he => (hs e he).2) (by simp [Gh.setCom,upd_same]) hcell (hr.ext hx)
 refine ⟨hx,⟨hi.below,fun k hk => ?_,hi.lock⟩,?_⟩
 ·by_cases e : k = b
  ·subst e
   refine ⟨_,_,_,m5,?_⟩
   simp only [Gh.setCom,upd_same,List.size_toArray,List.length_append]; omega
  ·have hk' : G.com k ≠ 0 := by simpa [Gh.setCom,upd_ne _ _ e] using hk
   have := hi.com k hk'
   simpa [Gh.setCom,upd_ne _ _ e] using this
 ·have hne : ∀ k,R k ≠ .mem → k ≠ b := fun k hk e => hk (by rw [e]; exact hR)
  have hf := h
  refine ⟨h.defers.step hx,fun s => ?_,fun s hs' => ?_,fun i l hl => ?_,fun s i hr => ?_,fun k y hk => ?_,fun k y hk => ?_,h.rlt⟩
  ·have := h.vals s
   show SRep _ _ _ (meltV b sz es (st.vals s)) _
   revert this
   generalize st.vals s = x
   cases x with
   | v x => exact fun h => hrep h
   | _ => exact fun h => h
  ·obtain ⟨sz',l,e1,hv⟩ := h.own s hs'
   show Own _ _ _ _ _ (meltV b sz es (st.vals s))
   rw [e1]
   refine ⟨sz',l,rfl,hv.imp id ?_⟩
   rintro ⟨k,len,cap,cs',el,h1,h2,h3,h4,h5,h6,h7,h8⟩
   have hkb : k ≠ b := hne k (by rw [h8]; simp)
   exact ⟨k,len,cap,cs',el,h1,h2,h3,h4,h5,h6,by simp [Gh.setCom,upd_ne _ _ hkb,h7],h8⟩
  ·have hl' : (st.loc i).map (List.map (meltA b sz es)) = some l := hl
   cases hl0 : st.loc i with
   | none => rw [hl0] at hl'; cases hl'
   | some l0 =>
    rw [hl0] at hl'
    simp only [Option.map_some,Option.some.injEq] at hl'
    subst hl'
    obtain ⟨⟨k1,k2,k3,cs',e',k4,k5⟩,k6⟩ := h.loc i l0 hl0
    have hkb : β i ≠ b := hne _ (by rw [k6]; simp)
    refine ⟨⟨k1,k2,by simp [Gh.setCom,upd_ne _ _ hkb,k3],cs',e',k4,by simp [k5.1],fun j x v hx' hv => ?_⟩,k6⟩
    rw [List.getElem?_map] at hx'
    cases hj : l0[j]? with
    | none => rw [hj] at hx'; cases hx'
    | some y =>
     rw [hj] at hx'
     simp only [Option.map_some,Option.some.injEq] at hx'
     subst hx'
     exact hrep (k5.2 j y v hj hv)
  ·have hr' : (st.vals s).refs i := by
    have : (meltV b sz es (st.vals s)).refs i := hr
    revert this
    generalize st.vals s = x
    cases x <;> exact id
   have := h.ref s i hr'
   show (st.loc i).map _ ≠ none
   cases hl0 : st.loc i with
   | none => exact absurd hl0 this
   | some l0 => simp
  ·have hk' : upd st.mem b none k = some y := hk
   by_cases e : k = b
   ·subst e; rw [upd_same] at hk'; cases hk'
   ·rw [upd_ne _ _ e] at hk'
    obtain ⟨k1,k2,k3,k4,k5⟩ := h.mem k y hk'
    exact ⟨k1,k2,k3,by simp [Gh.setCom,upd_ne _ _ e,k4],k5.ext hx rfl⟩
  ·have hk' : upd st.mem b none k = some y := hk
   by_cases e : k = b
   ·subst e; rw [upd_same] at hk'; cases hk'
   ·rw [upd_ne _ _ e] at hk'
    exact h.rmem k y hk'
end
end Go.Proofs.Ytikodjpbknneoaa.Abs
/- The abstract machine,part 22: a slice that is appended to an empty one becomes memory of its own,whose elements can be written (thaw). -/
namespace Go.Proofs.Ytikodjpbknneoaa.Abs
set_option linter.unusedSimpArgs false
open Go Go.RowKit
theorem flatten_row {com : Nat → Nat} {w : World} {sz : Nat} : ∀ {es : List AV} {cs : List Value},RowRep com w sz es cs → Reps com w (es.map AV.cells).flatten cs
 | [],cs,h => by
  have : cs = [] := by have := h.1; simpa using this
  subst this; exact Reps.nil
 | e :: es,cs,h => by
  obtain ⟨h1,h2,h3⟩ := h
  have he := h2 e (by simp)
  have hl : cs.length = es.length * sz + sz := by rw [h1,List.length_cons,Nat.add_mul,Nat.one_mul]
  have ht : RowRep com w sz es (cs.drop sz) := by
   refine ⟨by rw [List.length_drop]; omega,fun x hx => h2 x (by simp [hx]),fun k x j y v hk hj hv => ?_⟩
   refine h3 (k + 1) x j y v (by simpa using hk) hj ?_
   rw [List.getElem?_drop] at hv
   rw [← hv]; congr 1; rw [Nat.add_mul]; omega
  have hh : Reps com w e.cells (cs.take sz) := by
   refine ⟨by rw [List.length_take]; omega,fun i x v hx hv => ?_⟩
   have hi := (List.getElem?_eq_some_iff.1 hx).1
   rw [List.getElem?_take,if_pos (by omega)] at hv
   exact h3 0 e i x v rfl hx (by simpa using hv)
  have := Reps.append hh (flatten_row ht)
  rw [List.take_append_drop] at this
  exact this
theorem reps_top {com : Nat → Nat} {w : World} (cs : List Value) : Reps com w (List.replicate cs.length .top) cs :=
 ⟨by simp,fun i x v hx _ => by rw [List.getElem?_replicate] at hx; split at hx <;> simp at hx; subst hx; exact .top _⟩
section
variable {E : Env} {G : Gh} {w : World} {β : Nat → Nat} {R : Nat → Role} {a : Act} {st : St} {n : Nat}
theorem vcOps_pre (hE : EnvOk E) {ops : Array Oper} : ∀ (l : List Oper) {K : St → Prop} {st : St} {r : Option Nat},vcOps E ops l K st → l.all (dstOk n) = true →
  ∀ {G : Gh} {w : World} {a : Act},Inv G w → FRel G w a st → a.tmps.size = n → ∀ {Q : Exit → Act → World → Prop} {tl : List Oper},(∀ a' w' G' st',Ext G w G' w' → Inv G' w' → FRel G' w' a' st' → a'.tmps.size = n → K st' → wpListIn (fen r) 0 E.P ops Q tl a' w') →
  wpListIn (fen r) 0 E.P ops Q (l ++ tl) a w
 | [],K,st,r,h,_,G,w,a,hi,hf,hs,Q,tl,hQ => hQ a w G st (Ext.refl _ _) hi hf hs h
 | o :: rest,K,st,r,h,hd,G,w,a,hi,hf,hs,Q,tl,hQ => by
  simp only [List.all_cons,Bool.and_eq_true] at hd
  obtain ⟨hd1,hd2⟩ := hd
  have yes : ∀ st1,FRel G w a st1 → vcOp E o (vcOps E ops rest K) st1 → Region.wanted o (yielded ops a.tmps) = true → wpListIn (fen r) 0 E.P ops Q (o :: (rest ++ tl)) a w := by
   intro st1 hf1 h hw
   unfold wpListIn
   rw [if_pos hw]
   exact (vcOp_sound hE h hd1 hi hf1 hs fun a' w' G' st' hx hi' hf' hs' hk =>
    vcOps_pre hE rest hk hd2 hi' hf' hs' fun a'' w'' G'' st'' hx' hi'' hf'' hs'' hk' => hQ a'' w'' G'' st'' (hx.trans hx') hi'' hf'' hs'' hk')
  have no : ∀ st1,FRel G w a st1 → vcOps E ops rest K (st1.put o.dst undefS false) → Region.wanted o (yielded ops a.tmps) = false → wpListIn (fen r) 0 E.P ops Q (o :: (rest ++ tl)) a w := by
   intro st1 ⟨β,R,hf1⟩ h hw
   unfold wpListIn
   rw [if_neg (by rw [hw]; simp)]
   have hd' : ∀ t,o.dst = some t → t < a.tmps.size := fun t ht => by rw [hs]; simpa [dstOk,ht] using hd1
   refine ⟨fun _ _ => fen_fn r _,?_⟩
   exact vcOps_pre hE rest h hd2 hi ⟨β,R,hf1.put hd' (x := undefS) (v := undef) (rep_undef _ _) (fun i h => h.elim)⟩ (by rw [put_size]; exact hs) hQ
  show wpListIn _ _ _ _ _ (o :: (rest ++ tl)) _ _
  unfold vcOps vcGuard at h
  split at h
  ·rename_i hg
   exact yes st hf h (by simp [Region.wanted,hg])
  ·rename_i j want hg
   split at h
   ·exact h.elim
   ·rename_i d hj
    obtain ⟨β,R,hfb⟩ := hf
    have hv := hfb.vals d
    split at h
    ·rename_i b hb
     rw [ite_both] at h
     rw [hb] at hv
     have hval := getD_some (rep_bool (srep_v hv)) (by simp [undef])
     have hy : yielded ops a.tmps j = some b := by
      unfold yielded
      rw [show (ops[j]?).bind (·.dst) = some d from hj]
      simp [hval]
     by_cases e : b = want
     ·subst e
      have hst : ({ st with vals := upd st.vals d (.v (.bool b)) } : St) = st := by rw [← hb,upd_self]
      have h1 := h.1 rfl
      rw [hst] at h1
      exact yes st ⟨β,R,hfb⟩ h1 (by simp [Region.wanted,hg,hy])
     ·have e' : b = !want := by cases b <;> cases want <;> simp_all
      have hst : ({ st with vals := upd st.vals d (.v (.bool !want)) } : St) = st := by rw [← e',← hb,upd_self]
      have h2 := h.2 e'
      rw [hst] at h2
      exact no st ⟨β,R,hfb⟩ h2 (by simp [Region.wanted,hg,hy,e'])
    ·rename_i hb
     rw [hb] at hv
     have hval := rep_nilundef (srep_v hv)
     have hy : yielded ops a.tmps j = none := by
      unfold yielded
      rw [show (ops[j]?).bind (·.dst) = some d from hj]
      by_cases hlt : d < a.tmps.size
      ·have : a.tmps[d]? = some undef := by
        rw [Array.getElem?_eq_getElem hlt]
        simp [Array.getD,hlt] at hval
        rw [hval]
       simp [this,undef]
      ·simp [Array.getElem?_eq_none (Nat.le_of_not_lt hlt)]
     exact no st ⟨β,R,hfb⟩ h (by simp [Region.wanted,hg,hy])
    ·exact h.elim
end
end Go.Proofs.Ytikodjpbknneoaa.Abs
/- The abstract machine,part 23: a cut in whose statement a slice is read and stays its slot's own (keep). -/
namespace Go.Proofs.Ytikodjpbknneoaa.Abs
set_option linter.unusedSimpArgs false
open Go Go.RowKit
section
variable {E : Env} {st : St} {n : Nat}
end
end Go.Proofs.Ytikodjpbknneoaa.Abs
/- The abstract machine,part 30: appends to slices of shared memory,in place or not. -/
namespace Go.Proofs.Ytikodjpbknneoaa.Abs
set_option linter.unusedSimpArgs false
open Go Go.RowKit
section
variable {E : Env} {G : Gh} {w : World} {a : Act} {st : St} {n : Nat}
def vcAppE (E : Env) (o : Oper) (st : St) (S : Eff → Prop) : Prop :=
 match o.dst,o.op with
 | some _,.call c => match c.callee,c.argTypes.toList,c.args.toList with
  | .builtin .append,[t,t2],[s,y2] => match E.T t,st.sv E.T t s,st.sv E.T t2 y2 with
   | some ⟨.slice e,_,_,_⟩,.v (.mslice b 0 len cap),.v (.slice sz2 l2) => match E.T e with
    | some i => ∃ es tail,((cap = 0 ∧ es = [] ∧ tail = []) ∨ st.mem b = some (.cells ((es.map AV.cells).flatten ++ tail))) ∧
     (t2 = t ∧ len = es.length ∧ len ≤ cap ∧ cap ≤ maxLen ∧ tail.length = (cap - len) * i.size ∧ sz2 = i.size ∧ (∀ x ∈ es,x.cells.length = i.size ∧ x.cells.all flat = true) ∧ i.bytes ≠ 0 ∧ 0 < l2.length ∧ (es.length + l2.length) * i.bytes ≤ 140737488355328) ∧
     (es.length + l2.length ≤ cap → S (.call (.mslice b 0 (es.length + l2.length) cap) (upd st.mem b (some (.cells (((es ++ l2).map AV.cells).flatten ++ tail.drop (l2.length * i.size))))))) ∧
     (cap < es.length + l2.length → ∀ b' cap' tail',st.mem b' = none → es.length + l2.length ≤ cap' → cap' ≤ maxLen → tail'.length = (cap' - (es.length + l2.length)) * i.size →
      S (.call (.mslice b' 0 (es.length + l2.length) cap') (upd st.mem b' (some (.cells (((es ++ l2).map AV.cells).flatten ++ tail'))))))
    | none => False
   | _,_,_ => False
  | _,_,_ => False
 | _,_ => False
theorem vcAppE_congr {o : Oper} {st st' : St} {S S' : Eff → Prop} (hsv : ∀ x ∈ o.op.operands,∀ ty,st.sv E.T ty x = st'.sv E.T ty x) (hm : st.mem = st'.mem) (h : vcAppE E o st' S) (hs : ∀ x m,S (.call x m) → S' (.call x m)) : vcAppE E o st S' := by
 unfold vcAppE at h ⊢
 split at h
 ·rename_i d c hdst hop
  split at h
  ·rename_i t t2 s y2 hcb hts hys
   have hmem : ∀ x ∈ c.args.toList,x ∈ o.op.operands := fun x hx => by rw [hop]; simp [Op.operands,Call.operands,hcb]; simpa using hx
   rw [hsv s (hmem s (by rw [hys]; simp)),hsv y2 (hmem y2 (by rw [hys]; simp)),hm]
   split at h
   ·rename_i e sz0 by0 z0 b len cap sz2 l2 hT hv hy
    split at h
    ·rename_i i hTe
     obtain ⟨es,tail,h1,h2,h3,h4⟩ := h
     exact ⟨es,tail,h1,h2,fun q => hs _ _ (h3 q),fun q b' cap' tail' q1 q2 q3 q4 => hs _ _ (h4 q b' cap' tail' q1 q2 q3 q4)⟩
    ·exact h.elim
   ·exact h.elim
  ·exact h.elim
 ·exact h.elim
def vcAppG (E : Env) (o : Oper) (K : St → Prop) (st : St) : Prop := vcAppE E o st fun e => K (st.eff o.dst e)
theorem vcAppG_sound (hE : EnvOk E) {o : Oper} {K : St → Prop} (h : vcAppG E o K st) (hd : dstOk n o = true) (hi : Inv G w) (hf : FRel G w a st) (hs : a.tmps.size = n) {r : Option Nat}
  {next : Act → World → Prop} {Q : Exit → Act → World → Prop} (hn : ∀ a' w' G' st',Ext G w G' w' → Inv G' w' → FRel G' w' a' st' → a'.tmps.size = n → K st' → next a' w') : o.wpIn (fen r) 0 E.P a w next Q := by
 have hd' : ∀ t,o.dst = some t → t < a.tmps.size := fun t ht => by rw [hs]; simpa [dstOk,ht] using hd
 obtain ⟨β,R,hf⟩ := hf
 unfold vcAppG vcAppE at h
 split at h
 ·rename_i d c hdst hop
  split at h
  ·rename_i t t2 s y2 hcb hts hys
   split at h
   ·rename_i e sz0 by0 z0 b len cap sz2 l2 hT hv hy
    split at h
    ·rename_i i hTe
     obtain ⟨es,tail,hbox,⟨rfl,rfl,hlc,hcm0,htl,rfl,hes,hby,hpos,hbd⟩,hk1,hk2⟩ := h
     obtain ⟨dd,hdd,hu,hr⟩ := run_und hE hT
     cases dd <;> simp only [descOk] at hdd
     subst hdd
     have ok := hE _ _ hTe
     obtain ⟨fi,zv,d',g1,g2,g3,g4,g5,g6,g7,g8⟩ := ok.ex
     have q1 := hf.eval E.T t2 s
     rw [hv] at q1
     have q2 := hf.eval E.T t2 y2
     rw [hy] at q2
     obtain ⟨news,hn1,hn2,hn3,hn4,hn5⟩ := slice_row (srep_v q2)
     have hml : es.length + l2.length ≤ maxLen := by
      have : es.length + l2.length ≤ (es.length + l2.length) * i.bytes := Nat.le_mul_of_pos_right _ (by omega)
      unfold maxLen; omega
     have hcat : ((es ++ l2).map AV.cells).flatten = (es.map AV.cells).flatten ++ (l2.map AV.cells).flatten := by rw [List.map_append,List.flatten_append]
     have fin : ∀ (z : Value) (w' : World) (st' : St),(Builtin.append_ #[t2,t2] o.type #[a.eval s,a.eval y2]).run E.P w = .ok z w' → Ext G w G w' → Inv G w' → FRel G w' (a.put (some d) z) st' → K st' → o.wpIn (fen r) 0 E.P a w next Q := by
      intro z w' st' hrun x1 x2 x3 hk
      have hexec : (execOp a.eval o).run E.P w = .ok (.value z) w' := by
       have e1 : c.argTypes = #[t2,t2] := by apply Array.ext'; simp [hts]
       have e2 : c.args.map a.eval = #[a.eval s,a.eval y2] := by apply Array.ext'; rw [Array.toList_map,hys]; rfl
       unfold execOp
       simp only [hop,resolve,hcb,Sem.run_bind,Sem.run_pure,Result.andThen_ok,invoke]
       rw [e1,e2]
       simp [builtin,hrun]
      refine oper_in (fun c hc => by rw [hop] at hc; cases hc) ?_
      rw [hexec]
      have hnn := hn _ _ _ _ x1 x2 x3 (by rw [put_size]; exact hs) hk
      show next (a.put o.dst _) _
      rw [hdst]
      exact hnn
     by_cases hroom : es.length + l2.length ≤ cap
     ·have hb : st.mem b = some (.cells ((es.map AV.cells).flatten ++ tail)) := by
       rcases hbox with ⟨q,_,_⟩ | q
       ·omega
       ·exact q
      have hval : a.eval s = .slice (some ⟨b,0,none⟩) es.length cap := rep_mslice_pos (srep_v q1) (.inr (by omega))
      obtain ⟨_,_,_,_,cs,eT,hheap,hreps⟩ := hf.mem b _ hb
      obtain ⟨c1,c2,rfl,r1,r2⟩ := Reps.split hreps
      have hrow := row_flatten (fun x hx => (hes x hx).1) r1
      have hc1 : c1.length = es.length * i.size := hrow.1
      have hc2 : c2.length = (cap - es.length) * i.size := by rw [← r2.1,htl]
      have hnl : news.length = l2.length * i.size := hn1.1
      have hle : l2.length * i.size ≤ (cap - es.length) * i.size := Nat.mul_le_mul_right _ (by omega)
      have hfit : es.length * fi.size + news.length ≤ (c1 ++ c2).length := by rw [g2,List.length_append,hc1,hc2,hnl]; omega
      have hrun := run_append_room2 (P := E.P) w t2 o.type e fi hu g1 b es.length cap l2.length (a.eval y2) news (fun w' => hn4 E.P w') (by rw [g2]; exact hn3 E.P w (fun _ => rfl)) hroom hheap hfit (row_plain hn1 hn2)
      rw [g2] at hrun
      have hwr : writeAt (c1 ++ c2) (es.length * i.size) news = c1 ++ (news ++ c2.drop news.length) := by
       unfold writeAt
       rw [List.take_append_of_le_length (by omega),← hc1,List.take_length,List.append_assoc]
       congr 2
       rw [List.drop_append,List.drop_eq_nil_of_le (by omega),List.nil_append]
       congr 1
       omega
      have hm := hf.mset hi hb (o := .cells (writeAt (c1 ++ c2) (es.length * i.size) news).toArray eT (0,0)) (y := .cells (((es ++ l2).map AV.cells).flatten ++ tail.drop (l2.length * i.size)))
       (fun w' hw' hx' => ⟨_,_,hw',by
        rw [hwr,hcat,List.append_assoc]
        exact Reps.append (r1.ext hx') (Reps.append ((flatten_row hn1).ext hx') (by rw [← hnl]; exact (r2.ext hx').drop _))⟩) none (fun t ht => by cases ht)
      obtain ⟨x1,x2,x3⟩ := hm
      have x4 := x3.put (d := some d) (x := .v (.mslice b 0 (es.length + l2.length) cap)) (v := .slice (some ⟨b,0,none⟩) (es.length + l2.length) cap) (fun t ht => by cases ht; exact hd' d hdst) (.mslice _ _ _ _) (fun _ h => h.elim)
      exact fin _ _ _ (by rw [hval]; exact hrun) x1 x2 ⟨β,R,x4⟩ (by have := hk1 hroom; rw [hdst] at this; exact this)
     ·obtain ⟨base,olds,hval,ho1,hold⟩ : ∃ (base : Option Addr) (olds : List Value),a.eval s = .slice base es.length cap ∧ RowRep G.com w i.size es olds ∧ (Builtin.firstCells fi.size es.length (.slice base es.length cap)).run E.P w.drew = .ok olds.toArray w.drew := by
       have nil : ∀ base,es = [] → (Builtin.firstCells fi.size es.length (.slice base es.length cap)).run E.P w.drew = .ok ([] : List Value).toArray w.drew := by
        intro base q
        subst q
        cases base <;> simp [Builtin.firstCells,loadCells,loadCellsFrom]
       by_cases hz : es = []
       ·subst hz
        rcases rep_mslice (srep_v q1) with q | ⟨q0,q3,q⟩
        ·exact ⟨_,[],q,RowRep.nil _,nil _ rfl⟩
        ·exact ⟨none,[],by rw [q,q3]; rfl,RowRep.nil _,nil _ rfl⟩
       ·have hpe : 0 < es.length := List.length_pos_iff.2 hz
        have hb : st.mem b = some (.cells ((es.map AV.cells).flatten ++ tail)) := by
         rcases hbox with ⟨_,q,_⟩ | q
         ·exact absurd q hz
         ·exact q
        have hval : a.eval s = .slice (some ⟨b,0,none⟩) es.length cap := rep_mslice_pos (srep_v q1) (.inl hpe)
        obtain ⟨_,_,_,_,cs,eT,hheap,hreps⟩ := hf.mem b _ hb
        obtain ⟨c1,c2,rfl,r1,r2⟩ := Reps.split hreps
        have hrow := row_flatten (fun x hx => (hes x hx).1) r1
        have hc1 : c1.length = es.length * i.size := hrow.1
        refine ⟨_,c1,hval,hrow,?_⟩
        rw [g2]
        simp only [Builtin.firstCells]
        have := loadCells_run (P := E.P) (w := w.drew) (b := b) (off := 0) (vs := fun j => c1.getD j undef) (es.length * i.size) (fun j hj => by
         rw [Nat.zero_add]
         have hc : w.drew.cell? ⟨b,j,none⟩ = w.cell? ⟨b,j,none⟩ := rfl
         rw [hc,cell_block hheap,List.getElem?_append_left (by omega)]
         simp [List.getElem?_eq_getElem (show j < c1.length by omega)])
        rw [this]
        congr 2
        apply List.ext_getElem
        ·simp [hc1]
        ·intro j h1 h2
         simp [List.getElem?_eq_getElem h2]
      have hrun := run_append_grow2 (P := E.P) w t2 o.type e fi zv hu g1 g4 base es.length cap l2.length (a.eval y2) olds news hold (fun w' => hn4 E.P w') (by rw [g2]; exact hn3 E.P w.drew (fun _ => rfl)) (by omega) hml (by rw [g3]; exact hbd)
      have hge := grownCap_ge w (es.length + l2.length) cap e
      have hcm := grownCap_le_maxLen w (es.length + l2.length) cap e hml
      have hzl : zv.cells.size = i.size := by
       have := rep_cells (g7 G.com w) ok.zc.2.1
       have h1 := this.1
       rw [ok.zc.1,ok.zc.2.2.1] at h1
       simpa using h1.symm
      obtain ⟨f1,f2,f3,f4⟩ := (drew_frame hf hi).fresh (drew_grow hi).2 (d := some d) (fun t ht => by cases ht; exact hd' d hdst)
       (o := .cells (olds ++ news ++ (Builtin.zeroCells zv.cells (grownCap w (es.length + l2.length) cap e - (es.length + l2.length))).toList).toArray e (0,0))
       (x := .mslice w.drew.heap.size 0 (es.length + l2.length) (grownCap w (es.length + l2.length) cap e)) (v := .slice (some ⟨w.heap.size,0,none⟩) (es.length + l2.length) (grownCap w (es.length + l2.length) cap e))
       (y := .cells (((es ++ l2).map AV.cells).flatten ++ List.replicate (Builtin.zeroCells zv.cells (grownCap w (es.length + l2.length) cap e - (es.length + l2.length))).toList.length .top))
       (fun w' hw' hx' => ⟨_,_,hw',by
        rw [hcat]
        have hx2 := (drew_grow hi).1.trans hx'
        exact Reps.append (Reps.append ((flatten_row ho1).ext hx2) ((flatten_row hn1).ext hx2)) (reps_top _)⟩)
       (fun com w' => .mslice _ _ _ _)
      exact fin _ _ _ (by rw [hval]; exact hrun) ((drew_grow hi).1.trans f2) f3 f4 (by have := hk2 (by omega) _ _ (List.replicate (Builtin.zeroCells zv.cells (grownCap w (es.length + l2.length) cap e - (es.length + l2.length))).toList.length .top) f1 hge hcm (by rw [List.length_replicate,Array.length_toList,size_zeroCells,hzl]); rw [hdst] at this; exact this)
    ·exact h.elim
   ·exact h.elim
  ·exact h.elim
 ·exact h.elim
end
end Go.Proofs.Ytikodjpbknneoaa.Abs
/- The abstract machine,part 24: pointed things that never change from here on. -/
namespace Go.Proofs.Ytikodjpbknneoaa.Abs
set_option linter.unusedSimpArgs false
open Go Go.RowKit
def meltPA (b : Nat) (es : List AV) : AV → AV
 | .ptr b' 0 => if b' = b then .eptr es else .ptr b' 0
 | x => x
def meltPV (b : Nat) (es : List AV) : SV → SV
 | .v x => .v (meltPA b es x)
 | y => y
def St.meltP (st : St) (b : Nat) (es : List AV) : St where
 vals := fun s => meltPV b es (st.vals s)
 own := st.own
 loc := fun i => (st.loc i).map (List.map (meltPA b es))
 mem := upd st.mem b none
theorem rep_meltP {com : Nat → Nat} {w : World} {b : Nat} {es : List AV} {cs : List Value} (hr : Reps com w es cs) (hc : es.length ≤ com b)
  (hw : ∀ i,i < es.length → w.cell? ⟨b,i,none⟩ = cs[i]?) {x : AV} {v : Value} (h : Rep com w x v) : Rep com w (meltPA b es x) v := by
 unfold meltPA
 split
 ·rename_i b'
  split
  ·rename_i hcond
   subst hcond
   cases h
   refine .eptr es b' 0 (fun i => cs[i]!) (by omega) (fun i hi => ?_) (fun j x hx => ?_)
   ·rw [Nat.zero_add,hw i hi]
    have : i < cs.length := by rw [← hr.1]; exact hi
    simp [this]
   ·have hj : j < es.length := by
     rw [List.getElem?_eq_some_iff] at hx
     exact hx.1
    have : j < cs.length := by rw [← hr.1]; exact hj
    exact hr.2 j x _ hx (by simp [this])
  ·exact h
 ·exact h
section
variable {E : Env} {G : Gh} {w : World} {β : Nat → Nat} {R : Nat → Role} {a : Act} {st : St} {n : Nat}
theorem FRelB.meltP (h : FRelB G w β R a st) (hi : Inv G w) {b : Nat} {es : List AV} (hb : st.mem b = some (.cells es)) :
  Ext G w (G.setCom b (es.length)) w ∧ Inv (G.setCom b (es.length)) w ∧ FRelB (G.setCom b (es.length)) w β R a (st.meltP b es) := by
 obtain ⟨m1,m2,m3,m4,cs,e,m5,m6⟩ := h.mem b _ hb
 have hR := h.rmem b _ hb
 have hx : Ext G w (G.setCom b (es.length)) w := by
  refine ⟨rfl,rfl,Nat.le_refl _,fun k => ?_,fun _ _ _ => rfl,fun k hk => ⟨rfl,?_⟩⟩
  ·by_cases e : k = b
   ·subst e; rw [m4]; exact Nat.zero_le _
   ·simp [Gh.setCom,upd_ne _ _ e]
  ·have : k ≠ b := by rintro rfl; exact m3 hk
   simp [Gh.setCom,upd_ne _ _ this]
 have hrow : Reps (G.setCom b (es.length)).com w es cs := m6.ext hx
 have hlen := hrow.1
 have hcell : ∀ i,i < es.length → w.cell? ⟨b,i,none⟩ = cs[i]? := fun i _ => by
  rw [cell_block m5]
 have hrep : ∀ {x v},Rep G.com w x v → Rep (G.setCom b (es.length)).com w (meltPA b es x) v := fun hr =>
  rep_meltP hrow (by simp [Gh.setCom,upd_same]) hcell (hr.ext hx)
 refine ⟨hx,⟨hi.below,fun k hk => ?_,hi.lock⟩,?_⟩
 ·by_cases e : k = b
  ·subst e
   refine ⟨_,_,_,m5,?_⟩
   simp only [Gh.setCom,upd_same,List.size_toArray]; omega
  ·have hk' : G.com k ≠ 0 := by simpa [Gh.setCom,upd_ne _ _ e] using hk
   have := hi.com k hk'
   simpa [Gh.setCom,upd_ne _ _ e] using this
 ·have hne : ∀ k,R k ≠ .mem → k ≠ b := fun k hk e => hk (by rw [e]; exact hR)
  have hf := h
  refine ⟨h.defers.step hx,fun s => ?_,fun s hs' => ?_,fun i l hl => ?_,fun s i hr => ?_,fun k y hk => ?_,fun k y hk => ?_,h.rlt⟩
  ·have := h.vals s
   show SRep _ _ _ (meltPV b es (st.vals s)) _
   revert this
   generalize st.vals s = x
   cases x with
   | v x => exact fun h => hrep h
   | _ => exact fun h => h
  ·obtain ⟨sz',l,e1,hv⟩ := h.own s hs'
   show Own _ _ _ _ _ (meltPV b es (st.vals s))
   rw [e1]
   refine ⟨sz',l,rfl,hv.imp id ?_⟩
   rintro ⟨k,len,cap,cs',el,h1,h2,h3,h4,h5,h6,h7,h8⟩
   have hkb : k ≠ b := hne k (by rw [h8]; simp)
   exact ⟨k,len,cap,cs',el,h1,h2,h3,h4,h5,h6,by simp [Gh.setCom,upd_ne _ _ hkb,h7],h8⟩
  ·have hl' : (st.loc i).map (List.map (meltPA b es)) = some l := hl
   cases hl0 : st.loc i with
   | none => rw [hl0] at hl'; cases hl'
   | some l0 =>
    rw [hl0] at hl'
    simp only [Option.map_some,Option.some.injEq] at hl'
    subst hl'
    obtain ⟨⟨k1,k2,k3,cs',e',k4,k5⟩,k6⟩ := h.loc i l0 hl0
    have hkb : β i ≠ b := hne _ (by rw [k6]; simp)
    refine ⟨⟨k1,k2,by simp [Gh.setCom,upd_ne _ _ hkb,k3],cs',e',k4,by simp [k5.1],fun j x v hx' hv => ?_⟩,k6⟩
    rw [List.getElem?_map] at hx'
    cases hj : l0[j]? with
    | none => rw [hj] at hx'; cases hx'
    | some y =>
     rw [hj] at hx'
     simp only [Option.map_some,Option.some.injEq] at hx'
     subst hx'
     exact hrep (k5.2 j y v hj hv)
  ·have hr' : (st.vals s).refs i := by
    have : (meltPV b es (st.vals s)).refs i := hr
    revert this
    generalize st.vals s = x
    cases x <;> exact id
   have := h.ref s i hr'
   show (st.loc i).map _ ≠ none
   cases hl0 : st.loc i with
   | none => exact absurd hl0 this
   | some l0 => simp
  ·have hk' : upd st.mem b none k = some y := hk
   by_cases e : k = b
   ·subst e; rw [upd_same] at hk'; cases hk'
   ·rw [upd_ne _ _ e] at hk'
    obtain ⟨k1,k2,k3,k4,k5⟩ := h.mem k y hk'
    exact ⟨k1,k2,k3,by simp [Gh.setCom,upd_ne _ _ e,k4],k5.ext hx rfl⟩
  ·have hk' : upd st.mem b none k = some y := hk
   by_cases e : k = b
   ·subst e; rw [upd_same] at hk'; cases hk'
   ·rw [upd_ne _ _ e] at hk'
    exact h.rmem k y hk'
theorem acut_meltP (hE : EnvOk E) {ops : Array Oper} {K : St → Prop} {α : Type} (I : α → Head) (J : α → Prop) (b : α → Nat) (es : α → List AV) (hok : ∀ x,(I x).ok = true)
  (h : vcOps E ops ops.toList (fun st' => ∃ x,J x ∧ (∃ c,st'.mem = c ∧ c (b x) = some (.cells (es x))) ∧ Fits (st'.meltP (b x) (es x)) (I x)) st)
  (hk : ∀ x,J x → K (I x).st) : ACut E n ops K st .mk := by
 refine ⟨fun hc id r hrd G w a hi hf hs => wpIn_region_list (vcOps_sound hE ops.toList h hc hi hf hs ?_)⟩
 rintro a' w' G' st' hx hi' ⟨β,R,hf'⟩ hs' ⟨x,hj,⟨c,rfl,hc1⟩,hfit⟩
 obtain ⟨x1,i1,f1⟩ := hf'.meltP hi' hc1
 exact ⟨_,(I x).st,(hx.trans x1).toL,i1,FRel.weaken ⟨β,R,f1⟩ hfit (hok x),hs',rfl,hk x hj⟩
end
end Go.Proofs.Ytikodjpbknneoaa.Abs
/- The abstract machine,part 25: variables of one's own that never change from a loop over a function on. -/
namespace Go.Proofs.Ytikodjpbknneoaa.Abs
set_option linter.unusedSimpArgs false
open Go Go.RowKit
section
variable {E : Env} {st : St} {n : Nat}
theorem ARange.freeze (i : Nat) {g : Operand} {ps : Array Tmp} {assign body : Code} {K : Exit → St → Prop} (h : ARange E n g ps assign body K (st.freeze i) .mk) : ARange E n g ps assign body K st .mk := by
 refine ⟨fun r hr G w a hi ⟨β,R,hf⟩ hs => ?_⟩
 obtain ⟨G',R',x,i',f'⟩ := freeze_sound hi hf i
 refine wpIn_mono (h.does r hr G' w a i' ⟨β,R',f'⟩ hs) fun e a' w' q => ?_
 obtain ⟨G2,st2,x2,q⟩ := q
 exact ⟨G2,st2,x.toL.trans x2,q⟩
end
end Go.Proofs.Ytikodjpbknneoaa.Abs
/- The abstract machine,part 26: slices that are built as shared memory,and appends to slices that are full. -/
namespace Go.Proofs.Ytikodjpbknneoaa.Abs
set_option linter.unusedSimpArgs false
open Go Go.RowKit
section
variable {E : Env} {G : Gh} {w : World} {β : Nat → Nat} {R : Nat → Role} {a : Act} {st : St} {n : Nat}
theorem acut_at (hE : EnvOk E) {V : Oper → (St → Prop) → St → Prop}
  (hV : ∀ {o : Oper} {K : St → Prop} {st : St},V o K st → dstOk n o = true → ∀ {G : Gh} {w : World} {a : Act},Inv G w → FRel G w a st → a.tmps.size = n → ∀ {r : Option Nat} {next : Act → World → Prop} {Q : Exit → Act → World → Prop},
   (∀ a' w' G' st',Ext G w G' w' → Inv G' w' → FRel G' w' a' st' → a'.tmps.size = n → K st' → next a' w') → o.wpIn (fen r) 0 E.P a w next Q)
  {ops : Array Oper} {K : St → Prop} {α : Type} (pre : List Oper) (o : Oper) (post : List Oper) (hops : ops.toList = pre ++ o :: post) (hg : o.guard = none) (I : α → Head) (J : α → Prop) (hok : ∀ x,(I x).ok = true)
  (h : vcOps E ops pre (V o (vcOps E ops post (fun st' => ∃ x,J x ∧ Fits st' (I x)))) st) (hk : ∀ x,J x → K (I x).st) : ACut E n ops K st .mk := by
 refine ⟨fun hc id r hrd G w a hi hf hs => wpIn_region_list ?_⟩
 rw [hops] at hc ⊢
 simp only [List.all_append,List.all_cons,Bool.and_eq_true] at hc
 obtain ⟨c1,c2,c3⟩ := hc
 refine vcOps_pre hE pre h c1 hi hf hs fun a1 w1 G1 st1 x1 i1 f1 s1 k1 => ?_
 unfold wpListIn
 rw [if_pos (by simp [Region.wanted,hg])]
 refine hV k1 c2 i1 f1 s1 fun a2 w2 G2 st2 x2 i2 f2 s2 k2 => ?_
 refine vcOps_sound hE post k2 c3 i2 f2 s2 ?_
 rintro a3 w3 G3 st3 x3 i3 f3 s3 ⟨x,hj,hfit⟩
 exact ⟨G3,(I x).st,((x1.trans x2).trans x3).toL,i3,f3.weaken hfit (hok x),s3,rfl,hk x hj⟩
theorem acut_at_k (k : Nat) (hE : EnvOk E) {V : Oper → (St → Prop) → St → Prop}
  (hV : ∀ {o : Oper} {K : St → Prop} {st : St},V o K st → dstOk n o = true → ∀ {G : Gh} {w : World} {a : Act},Inv G w → FRel G w a st → a.tmps.size = n → ∀ {r : Option Nat} {next : Act → World → Prop} {Q : Exit → Act → World → Prop},
   (∀ a' w' G' st',Ext G w G' w' → Inv G' w' → FRel G' w' a' st' → a'.tmps.size = n → K st' → next a' w') → o.wpIn (fen r) 0 E.P a w next Q)
  {ops : Array Oper} {K : St → Prop} {α : Type} {o : Oper} {post : List Oper} (hops : ops.toList.drop k = o :: post) (hg : o.guard = none) (I : α → Head) (J : α → Prop) (hok : ∀ x,(I x).ok = true)
  (h : vcOps E ops (ops.toList.take k) (V o (vcOps E ops post (fun st' => ∃ x,J x ∧ Fits st' (I x)))) st) (hk : ∀ x,J x → K (I x).st) : ACut E n ops K st .mk :=
 acut_at hE hV (ops.toList.take k) o post (by rw [← hops,List.take_append_drop]) hg I J hok h hk
end
end Go.Proofs.Ytikodjpbknneoaa.Abs
/- The abstract machine,part 31: a cut ahead of whose statement a block of memory is frozen: it never changes more. -/
namespace Go.Proofs.Ytikodjpbknneoaa.Abs
set_option linter.unusedSimpArgs false
open Go Go.RowKit
section
variable {E : Env} {st : St} {n : Nat}
end
end Go.Proofs.Ytikodjpbknneoaa.Abs
