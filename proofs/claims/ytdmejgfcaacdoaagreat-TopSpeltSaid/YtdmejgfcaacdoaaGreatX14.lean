/- Lemmas for the statements of this seat (X14): they hold without conditions beyond those that each one states. -/
import Derived.Test.YtdmejgfcaacdoaaGreatX11
import Derived.Test.YtdmejgfcaacdoaaGreatX8
import Derived.Laws.IdiomRangeMap
import Derived.Laws.IdiomStrings
import Derived.Laws.Runes
/- The abstract machine,part 40: maps whose entries are written in place,and loops over maps. -/
namespace Go.Proofs.YtdmejgfcaacdoaaGreat.Abs
set_option linter.unusedSimpArgs false
open Go Go.RowKit
structure KeyAt (P : Program) (kt : TypeId) (k : AV) (kv : List (AV × AV)) (j : Option Nat) : Prop where
 does : ∀ (com : Nat → Nat) (w : World) (vk : Value) (es : List MapEntry),Rep com w k vk → kv.length = es.length →
  (∀ (i : Nat) (k x : AV) (m : MapEntry),kv[i]? = some (k,x) → es[i]? = some m → Rep com w k m.key ∧ Rep com w x m.val) →
  (∀ e,(Instr.checkKey e 10000 kt vk).run P w = .ok () w) ∧ match j with
   | some j => ∃ m,es[j]? = some m ∧ m.key = vk ∧ (Instr.findKey kt vk es).run P w = .ok (some (j,m.val)) w ∧ (Instr.keyThatStays vk vk).run P w = .ok vk w
   | none => (Instr.findKey kt vk es).run P w = .ok none w
def bornAt (born : List Nat) (n : Int) : Option Nat := born.findIdx? fun x : Nat => ((x : Int) == n)
def evX (E : Env) (o : Oper) (ρ : TypeId → Operand → SV) (mem : Mem) (K : Eff → Prop) : Prop :=
 match o.op with
 | .makeMap t r => match r,E.T t with
  | none,some ⟨.map _ _,_,_,_⟩ => vcFresh mem (fun b => .map b) (.mapS [] [] 0) K
  | _,_ => False
 | .lookup t x k ok => ok = false ∧ match E.T t,ρ t x,ρ 0 k with
  | some ⟨.map kt et,_,_,_⟩,.v (.map b),.v k => match mem b with
   | some (.mapS kv _ _) => ∃ j,KeyAt E.P kt k kv j ∧ match j,E.T et with
    | some j,_ => ∃ p : AV × AV,kv[j]? = some p ∧ K (.put (.v p.2) false)
    | none,some i => K (.put (.v (zeroOf i)) false)
    | _,_ => False
   | _ => False
  | _,_,_ => False
 | .mapEntry t x k => match E.T t,ρ t x,ρ 0 k with
  | some ⟨.map kt et,_,_,_⟩,.v (.map b),.v k => match mem b with
   | some (.mapS kv born clock) => ∃ j,KeyAt E.P kt k kv j ∧ match j,E.T et with
    | some j,_ => ∃ (p : AV × AV) (s : Nat),kv[j]? = some p ∧ born[j]? = some s ∧ K (.mput (.tuple [p.2,.int .i64 s]) b (.mapS kv born clock))
    | none,some i => K (.mput (.tuple [zeroOf i,.int .i64 clock]) b (.mapS (kv ++ [(k,zeroOf i)]) (born ++ [clock]) (clock + 1)))
    | _,_ => False
   | _ => False
  | _,_,_ => False
 | .entryStore t x s y => match ρ t x,ρ 0 s,ρ 0 y with
  | .v (.map b),.v (.int .i64 n),.v y => match mem b with
   | some (.mapS kv born clock) => ∃ (j : Nat) (p : AV × AV),bornAt born n = some j ∧ kv[j]? = some p ∧ K (.mset b (.mapS (kv.set j (p.1,y)) born clock))
   | _ => False
  | _,_,_ => False
 | .range t x => match E.T t,ρ t x with
  | some ⟨.map _ _,_,_,_⟩,.v (.map m) => match mem m with
   | some (.mapS _ _ clock) => vcFresh mem (fun b => .ptr b 0) (.miter m clock [] clock) K
   | _ => False
  | _,_ => False
 | .next x s => s = false ∧ match ρ 0 x with
  | .v (.ptr b 0) => match mem b with
   | some (.miter m since seen c0) => match mem m with
    | some (.mapS kv born clock) => ((∀ x ∈ born,x < since) ∧ since ≤ c0) ∧ ((∀ x ∈ born,x ∈ seen) → K (.put (.v (.tuple [.bool false])) false)) ∧
     ∀ (j s : Nat) (p : AV × AV),born[j]? = some s → s ∉ seen → kv[j]? = some p → K (.mput (.tuple [.bool true,p.1,p.2]) b (.miter m since (seen ++ [s]) clock))
    | _ => False
   | _ => False
  | _ => False
 | .entry x => match ρ 0 x with
  | .v (.ptr b 0) => match mem b with
   | some (.miter m _ seen c0) => match mem m with
    | some (.mapS kv born clock) => clock = c0 ∧ born.Nodup ∧ ∃ (j s : Nat) (p : AV × AV),seen.getLast? = some s ∧ born[j]? = some s ∧ kv[j]? = some p ∧ K (.put (.v (.tuple [p.1,p.2])) false)
    | _ => False
   | _ => False
  | _ => False
 | _ => False
def vcX (E : Env) (o : Oper) (K : St → Prop) (st : St) : Prop := evX E o (st.sv E.T) st.mem fun e => K (st.eff o.dst e)
section
variable {E : Env} {n : Nat} {G : Gh} {w : World} {a : Act} {st : St}
theorem rep_pair {com : Nat → Nat} {x y : AV} {u v : Value} (h1 : Rep com w x u) (h2 : Rep com w y v) : Rep com w (.tuple [x,y]) (.tuple #[u,v]) := by
 refine .tuple [x,y] [u,v] rfl ?_
 intro i x v hx hv
 rcases i with _ | _ | i
 ·simp at hx hv; subst hx hv; exact h1
 ·simp at hx hv; subst hx hv; exact h2
 ·simp at hx
theorem rep_three {com : Nat → Nat} {x y z : AV} {u v t : Value} (h1 : Rep com w x u) (h2 : Rep com w y v) (h3 : Rep com w z t) : Rep com w (.tuple [x,y,z]) (.tuple #[u,v,t]) := by
 refine .tuple [x,y,z] [u,v,t] rfl ?_
 intro i x v hx hv
 rcases i with _ | _ | _ | i
 ·simp at hx hv; subst hx hv; exact h1
 ·simp at hx hv; subst hx hv; exact h2
 ·simp at hx hv; subst hx hv; exact h3
 ·simp at hx
theorem rep_mapv {com : Nat → Nat} {b : Nat} {v : Value} (h : Rep com w (.map b) v) : v = .map (some b) := by cases h; rfl
variable {β : Nat → Nat} {R : Nat → Role}
theorem FRelB.mputR (h : FRelB G w β R a st) (hi : Inv G w) {b : Nat} {x : Box} (hb : st.mem b = some x) {o : Obj} {y : Box} (ho : ∀ w',w'.heap[b]? = some o → Ext G w G w' → BoxRep G.com w' b y) {d : Option Tmp}
  (hd : ∀ t,d = some t → t < a.tmps.size) {z : AV} {v : Value} (hz : Rep G.com w z v) :
  Ext G w G (w.setBlock' b o) ∧ Inv G (w.setBlock' b o) ∧ FRel G (w.setBlock' b o) (a.put d v) (st.eff d (.mput z b y)) := by
 obtain ⟨h1,h2,h3⟩ := h.mset hi hb ho none (fun t ht => by cases ht)
 refine ⟨h1,h2,⟨β,R,?_⟩⟩
 have h3' : FRelB G (w.setBlock' b o) β R a { st with mem := upd st.mem b (some y) } := h3
 exact h3'.put (d := d) (x := .v z) (v := v) hd (hz.ext h1) (fun _ h => h.elim)
theorem run_setObj_iter {P : Program} {w : World} {b : Nat} {x : Option Nat} {since c0 : Nat} {seen : Array Nat} {o : Obj} (h : w.heap[b]? = some (.mapIter x since seen c0)) : (setObj b o).run P w = .ok () (w.setBlock' b o) := by
 simp [setObj,Sem.run,h,World.setBlock']
theorem run_setObj_mp {P : Program} {w : World} {b : Nat} {es : Array MapEntry} {clock : Nat} {o : Obj} (h : w.heap[b]? = some (.map es clock)) : (setObj b o).run P w = .ok () (w.setBlock' b o) := by
 simp [setObj,Sem.run,h,World.setBlock']
theorem findIdx_a (xs : Array MapEntry) (p : MapEntry → Bool) : xs.findIdx? p = xs.toList.findIdx? p := by
 cases xs
 simp
theorem run_next_any {P : Program} (w : World) (ty : TypeId) (b bm since c0 : Nat) (seen : Array Nat) (es : Array MapEntry) (clock : Nat) (hit : w.heap[b]? = some (.mapIter (some bm) since seen c0)) (hb : w.heap[bm]? = some (.map es clock)) (hold : ∀ x ∈ es.toList,x.born < since) (hsc : since ≤ c0) :
  ((∀ x ∈ es.toList,x.born ∈ seen.toList) ∧ (Instr.next (.pointer (some ⟨b,0,none⟩)) false ty).run P w = .ok (.tuple #[.bool false]) w) ∨
  ∃ (i : Nat) (e : MapEntry),es[i]? = some e ∧ e.born ∉ seen.toList ∧ ∃ w1 : World,(w1 = w ∨ w1 = w.drew) ∧ (Instr.next (.pointer (some ⟨b,0,none⟩)) false ty).run P w = .ok (.tuple #[.bool true,e.key,e.val]) (w1.setBlock' b (.mapIter (some bm) since (seen.push e.born) clock)) := by
 simp only [Instr.next,getObj,Sem.run_bind,Sem.run,hit,hb,Result.andThen,next_test_false seen es since c0 hold hsc,Bool.false_eq_true,if_false]
 have hL : ∀ x ∈ (Array.filter (fun e => !seen.contains e.born) es).toList,x ∈ es.toList ∧ x.born ∉ seen.toList := fun x hx => by simpa using hx
 have hL2 : ∀ x ∈ es.toList,x.born ∉ seen.toList → x ∈ (Array.filter (fun e => !seen.contains e.born) es).toList := fun x hx hn => by simpa using ⟨by simpa using hx,by simpa using hn⟩
 generalize Array.filter (fun e => !seen.contains e.born) es = L at hL hL2 ⊢
 have hmem : ∀ x ∈ L.toList,x.born < since := fun x hx => hold x (hL x hx).1
 have e1 : L.filter (fun x => decide (x.born < since)) = L := Array.filter_eq_self.2 (fun x hx => by simpa using hmem x (by simpa using hx))
 have e2 : L.filter (fun x => decide (x.born ≥ since)) = #[] := by
  rw [Array.filter_eq_empty_iff]
  intro x hx
  have := hmem x (by simpa using hx)
  simp
  omega
 simp only [e1,e2,Array.append_empty]
 by_cases h0 : L.size = 0
 ·left
  have : L = #[] := Array.eq_empty_of_size_eq_zero h0
  subst this
  refine ⟨fun x hx => Decidable.of_not_not fun hn => by simpa using hL2 x hx hn,?_⟩
  simp [choose,Sem.run,Question.forced]
 ·right
  have hne : L.isEmpty = false := by simp [Array.isEmpty,h0]
  simp only [hne,Bool.false_eq_true,if_false,Array.empty_append,Array.size_map]
  have hch : ∃ (j : Nat) (w1 : World),j < L.size ∧ (w1 = w ∨ w1 = w.drew) ∧ (choose (Question.mapNext L.size)).run P w = .ok j w1 := by
   by_cases hf : L.size ≤ 1
   ·exact ⟨0,w,by omega,.inl rfl,by simp [choose,Sem.run,Question.forced,hf]⟩
   ·exact ⟨_,w.drew,Nat.mod_lt _ (by omega),.inr rfl,by
     simp only [choose,Sem.run,Question.forced,decide_eq_true_eq,hf,if_false,Question.cut]
     rfl⟩
  obtain ⟨j,w1,hj,hal,hrun⟩ := hch
  obtain ⟨g1,g2⟩ := hL L[j] (by simp)
  obtain ⟨i,hi,hie⟩ := List.getElem_of_mem g1
  refine ⟨i,L[j],by rw [← Array.getElem?_toList,List.getElem?_eq_getElem hi,hie],g2,w1,hal,?_⟩
  have hit1 : w1.heap[b]? = some (.mapIter (some bm) since seen c0) := by rcases hal with rfl | rfl <;> exact hit
  simp only [hrun,Array.getElem?_map,Array.getElem?_eq_getElem hj,Option.map_some,Sem.run_bind,run_setObj_iter hit1,Result.andThen]
  rfl
theorem mapS_inv (hf : FRelB G w β R a st) {b : Nat} {kv : List (AV × AV)} {born : List Nat} {clock : Nat} (hm : st.mem b = some (.mapS kv born clock)) :
  ∃ es : Array MapEntry,w.heap[b]? = some (.map es clock) ∧ es.toList.map (·.born) = born ∧ es.size = kv.length ∧
   ∀ (i : Nat) (k x : AV) (m : MapEntry),kv[i]? = some (k,x) → es[i]? = some m → Rep G.com w k m.key ∧ Rep G.com w x m.val := (hf.mem b _ hm).2.2.2.2
theorem evX_sound (hE : EnvOk E) {o : Oper} {K : Eff → Prop} (h : evX E o (st.sv E.T) st.mem K) (hi : Inv G w) (hf : FRelB G w β R a st) (hd : ∀ t,o.dst = some t → t < a.tmps.size) :
  (∀ c,o.op ≠ .defer c) ∧ ∃ e,K e ∧ OpOk E.P o a w G (st.eff o.dst e) := by
 have sv := fun t x => hf.eval E.T t x
 obtain ⟨dst,op,type,pos,after,guard⟩ := o
 unfold evX at h
 cases op <;> (try exact h.elim) <;> refine ⟨fun c hc => (by cases hc),?_⟩ <;> dsimp only at h
 case makeMap t r =>
  split at h
  ·obtain ⟨h1,h2,h3,h4⟩ := hf.fresh hi (d := dst) hd (o := .map #[] 0) (x := .map w.heap.size) (v := .map (some w.heap.size)) (y := .mapS [] [] 0) (fun w' hw hx => ⟨_,hw,rfl,rfl,fun i k x m hk => by simp at hk⟩) (fun _ _ => .map _)
   exact ⟨_,h _ h1,_,_,G,.inl (by simp [execOp,Instr.makeMap]),h2,h3,h4⟩
  ·exact h.elim
 case lookup t x k ok =>
  obtain ⟨rfl,h⟩ := h
  split at h
  ·rename_i kt et _ _ _ b kk hT hxv hkv
   split at h
   ·rename_i kv born clock hm
    obtain ⟨j,hj,h⟩ := h
    obtain ⟨es,hb,hbo,hl,hr⟩ := mapS_inv hf hm
    obtain ⟨dd,hu,hdd⟩ := (hE _ _ hT).desc
    cases dd <;> simp only [descOk] at hdd
    obtain ⟨rfl,rfl⟩ := hdd
    have hx := sv t x; rw [hxv] at hx
    have hvx := rep_mapv (srep_v hx)
    have hk := sv 0 k; rw [hkv] at hk
    have hobj := MapKept.run_getObj_map (P := E.P) hb
    obtain ⟨hck,hfk⟩ := hj.does G.com w _ es.toList (srep_v hk) (by simp [hl]) (fun i k x m hk hm => hr i k x m hk (by simpa using hm))
    have hck := hck es.isEmpty
    cases j with
    | some j =>
     dsimp only at h
     obtain ⟨p,hp,hK⟩ := h
     obtain ⟨m,hm1,_,hm3,_⟩ := hfk
     have hrv := (hr j p.1 p.2 m hp (by simpa using hm1)).2
     refine ⟨_,hK,m.val,w,G,.inl ?_,Ext.refl _ _,hi,β,R,hf.put hd (x := .v p.2) hrv (fun _ h => h.elim)⟩
     simp [execOp,Instr.lookup,hvx,Sem.run_bind,run_underlying hu,Result.andThen_ok,hobj,hck,hm3]
    | none =>
     cases hTe : E.T et with
     | none => rw [hTe] at h; exact h.elim
     | some i =>
     rw [hTe] at h
     dsimp only at h
     obtain ⟨zv,hz,hzr⟩ := (hE _ _ hTe).zero
     refine ⟨_,h,zv,w,G,.inl ?_,Ext.refl _ _,hi,β,R,hf.put hd (x := .v (zeroOf i)) (hzr _ _) (fun _ h => h.elim)⟩
     simp only at hfk
     simp [execOp,Instr.lookup,hvx,Sem.run_bind,run_underlying hu,Result.andThen_ok,hobj,hck,hfk,hz]
   ·exact h.elim
  ·exact h.elim
 case mapEntry t x k =>
  split at h
  ·rename_i kt et _ _ _ b kk hT hxv hkv
   split at h
   ·rename_i kv born clock hm
    obtain ⟨j,hj,h⟩ := h
    obtain ⟨es,hb,hbo,hl,hr⟩ := mapS_inv hf hm
    obtain ⟨dd,hu,hdd⟩ := (hE _ _ hT).desc
    cases dd <;> simp only [descOk] at hdd
    obtain ⟨rfl,rfl⟩ := hdd
    have hx := sv t x; rw [hxv] at hx
    have hvx := rep_mapv (srep_v hx)
    have hk := sv 0 k; rw [hkv] at hk
    have hobj := MapKept.run_getObj_map (P := E.P) hb
    obtain ⟨hck,hfk⟩ := hj.does G.com w _ es.toList (srep_v hk) (by simp [hl]) (fun i k x m hk hm => hr i k x m hk (by simpa using hm))
    have hck := hck false
    cases j with
    | some j =>
     dsimp only at h
     obtain ⟨p,s,hp,hs,hK⟩ := h
     obtain ⟨m,hm1,hm2,hm3,hm4⟩ := hfk
     have hm1' : es[j]? = some m := by simpa using hm1
     have hmb : m.born = s := by
      rw [← hbo,List.getElem?_map,hm1] at hs
      simpa using hs
     obtain ⟨q1,q2⟩ := hr j p.1 p.2 m hp hm1'
     have hmod : ∀ (i : Nat) (m' : MapEntry),(es.modify j fun e => { e with key := a.eval k })[i]? = some m' → ∃ m0 : MapEntry,es[i]? = some m0 ∧ m'.key = m0.key ∧ m'.val = m0.val := by
      intro i m' hm'
      rw [Array.getElem?_modify] at hm'
      split at hm'
      ·rename_i e
       subst e
       rw [hm1'] at hm'
       simp at hm'
       subst hm'
       exact ⟨m,hm1',hm2.symm,rfl⟩
      ·exact ⟨m',hm',rfl,rfl⟩
     obtain ⟨z1,z2,z3⟩ := hf.mputR hi hm (o := .map (es.modify j fun e => { e with key := a.eval k }) clock) (y := .mapS kv born clock) (fun w' hw' hx' => by
      refine ⟨_,hw',?_,by simpa using hl,fun i k' x' m' hk' hm' => ?_⟩
      ·rw [← hbo]
       refine List.ext_getElem? fun i => ?_
       rw [List.getElem?_map,List.getElem?_map,Array.getElem?_toList,Array.getElem?_toList,Array.getElem?_modify]
       split
       ·rename_i e; subst e; rw [hm1']; rfl
       ·rfl
      ·obtain ⟨m0,g1,g2,g3⟩ := hmod i m' hm'
       obtain ⟨r1,r2⟩ := hr i k' x' m0 hk' g1
       rw [g2,g3]
       exact ⟨r1.ext hx',r2.ext hx'⟩) hd (z := .tuple [p.2,.int .i64 s]) (v := .tuple #[m.val,goInt s]) (rep_pair q2 (.int _ _))
     refine ⟨_,hK,_,_,G,.inl ?_,z1,z2,z3⟩
     have hset := run_setObj_mp (P := E.P) (o := .map (es.modify j fun e => { e with key := a.eval k }) clock) hb
     simp [execOp,Instr.mapEntry,hvx,Sem.run_bind,run_underlying hu,Result.andThen_ok,hobj,hck,hm3,hm1',hm2,hm4,hset,hmb]
    | none =>
     cases hTe : E.T et with
     | none => rw [hTe] at h; exact h.elim
     | some i =>
     rw [hTe] at h
     dsimp only at h
     obtain ⟨zv,hz,hzr⟩ := (hE _ _ hTe).zero
     simp only at hfk
     have hset := run_setObj_mp (P := E.P) (o := .map (es.push { key := a.eval k,val := zv,born := clock }) (clock + 1)) hb
     obtain ⟨z1,z2,z3⟩ := hf.mputR hi hm (o := .map (es.push { key := a.eval k,val := zv,born := clock }) (clock + 1)) (y := .mapS (kv ++ [(kk,zeroOf i)]) (born ++ [clock]) (clock + 1)) (fun w' hw' hx' => by
      refine ⟨_,hw',by simp [hbo],by simp [hl],fun i' k' x' m hk' hm' => ?_⟩
      by_cases hlt : i' < kv.length
      ·rw [List.getElem?_append_left hlt] at hk'
       rw [Array.getElem?_push_lt (by omega)] at hm'
       obtain ⟨r1,r2⟩ := hr i' k' x' m hk' (by rw [← hm',Array.getElem?_eq_getElem (by omega)])
       exact ⟨r1.ext hx',r2.ext hx'⟩
      ·have e : i' = kv.length := by
        have := (List.getElem?_eq_some_iff.1 hk').1
        simp at this; omega
       subst e
       rw [List.getElem?_append_right (Nat.le_refl _)] at hk'
       simp at hk'
       obtain ⟨rfl,rfl⟩ := hk'
       rw [← hl] at hm'
       simp at hm'
       subst hm'
       exact ⟨(srep_v hk).ext hx',hzr _ _⟩) hd (z := .tuple [zeroOf i,.int .i64 clock]) (v := .tuple #[zv,goInt clock]) (rep_pair (hzr _ _) (.int _ _))
     refine ⟨_,h,_,_,G,.inl ?_,z1,z2,z3⟩
     simp [execOp,Instr.mapEntry,hvx,Sem.run_bind,run_underlying hu,Result.andThen_ok,hobj,hck,hfk,hz,hset]
   ·exact h.elim
  ·exact h.elim
 case entryStore t x s y =>
  split at h
  ·rename_i b nn yy hxv hsv hyv
   split at h
   ·rename_i kv born clock hm
    obtain ⟨j,p,hj,hp,hK⟩ := h
    obtain ⟨es,hb,hbo,hl,hr⟩ := mapS_inv hf hm
    have hx := sv t x; rw [hxv] at hx
    have hvx := rep_mapv (srep_v hx)
    have hs := sv 0 s; rw [hsv] at hs
    have hvs := rep_int (srep_v hs)
    have hy := sv 0 y; rw [hyv] at hy
    have hobj := MapKept.run_getObj_map (P := E.P) hb
    have hfi : es.findIdx? (fun e => (e.born : Int) == nn) = some j := by
     unfold bornAt at hj
     rw [← hbo,List.findIdx?_map] at hj
     rw [findIdx_a]
     exact hj
    obtain ⟨z1,z2,z3⟩ := hf.mset hi hm (o := .map (es.modify j fun e => { e with val := a.eval y }) clock) (y := .mapS (kv.set j (p.1,yy)) born clock) (fun w' hw' hx' => by
     refine ⟨_,hw',?_,by simpa using hl,fun i k' x' m' hk' hm' => ?_⟩
     ·rw [← hbo]
      refine List.ext_getElem? fun i => ?_
      rw [List.getElem?_map,List.getElem?_map,Array.getElem?_toList,Array.getElem?_toList,Array.getElem?_modify]
      split
      ·rename_i e; subst e; cases es[j]? <;> rfl
      ·rfl
     ·rw [Array.getElem?_modify] at hm'
      by_cases e : j = i
      ·subst e
       rw [if_pos rfl] at hm'
       rw [List.getElem?_set_self (by have := (List.getElem?_eq_some_iff.1 hp).1; exact this)] at hk'
       cases hk'
       cases hes : es[j]? with
       | none => rw [hes] at hm'; cases hm'
       | some m0 =>
        rw [hes] at hm'
        cases hm'
        exact ⟨((hr j p.1 p.2 m0 hp hes).1).ext hx',(srep_v hy).ext hx'⟩
      ·rw [if_neg e] at hm'
       rw [List.getElem?_set_ne e] at hk'
       obtain ⟨r1,r2⟩ := hr i k' x' m' hk' hm'
       exact ⟨r1.ext hx',r2.ext hx'⟩) dst hd
    refine ⟨_,hK,undef,_,G,.inr ⟨?_,rfl⟩,z1,z2,β,R,z3⟩
    have hset := run_setObj_mp (P := E.P) (o := .map (es.modify j fun e => { e with val := a.eval y }) clock) hb
    simp [execOp,Instr.entryStore,hvx,hvs,Sem.run_bind,Result.andThen_ok,hobj,hfi,hset,asInt,asIntOf]
   ·exact h.elim
  ·exact h.elim
 case range t x =>
  split at h
  ·rename_i _ _ _ _ _ bm hT hxv
   split at h
   ·rename_i kv born clock hm
    obtain ⟨es,hb,hbo,hl,hr⟩ := mapS_inv hf hm
    obtain ⟨dd,hu,hdd⟩ := (hE _ _ hT).desc
    cases dd <;> simp only [descOk] at hdd
    have hx := sv t x; rw [hxv] at hx
    have hvx := rep_mapv (srep_v hx)
    obtain ⟨h1,h2,h3,h4⟩ := hf.fresh hi (d := dst) hd (o := .mapIter (some bm) clock #[] clock) (x := .ptr w.heap.size 0) (v := .pointer (some ⟨w.heap.size,0,none⟩)) (y := .miter bm clock [] clock) (fun w' hw _ => hw) (fun _ _ => .ptr _ _)
    refine ⟨_,h _ h1,_,_,G,.inl ?_,h2,h3,h4⟩
    simp [execOp,hvx,Instr.range,run_underlying hu,MapKept.run_getObj_map hb]
   ·exact h.elim
  ·exact h.elim
 case next x s =>
  obtain ⟨rfl,h⟩ := h
  split at h
  ·rename_i b hxv
   split at h
   ·rename_i bm since seen c0 hit
    split at h
    ·rename_i kv born clock hm
     obtain ⟨⟨h1,h2⟩,h3,h4⟩ := h
     obtain ⟨es,hb,hbo,hl,hr⟩ := mapS_inv hf hm
     have hx := sv 0 x; rw [hxv] at hx
     have hvx := rep_ptr (srep_v hx)
     have hib : w.heap[b]? = some (.mapIter (some bm) since seen.toArray c0) := (hf.mem b _ hit).2.2.2.2
     have hbm : ∀ (i : Nat) (e : MapEntry),es[i]? = some e → born[i]? = some e.born := fun i e he => by
      rw [← hbo,List.getElem?_map,Array.getElem?_toList,he]; rfl
     have hold : ∀ x ∈ es.toList,x.born < since := fun x hx => h1 _ (by rw [← hbo]; exact List.mem_map.2 ⟨x,hx,rfl⟩)
     rcases run_next_any (P := E.P) w type b bm since c0 seen.toArray es clock hib hb hold h2 with ⟨g1,g2⟩ | ⟨i,e,g1,g2,w1,g3,g4⟩
     ·refine ⟨_,h3 (fun x hx => ?_),.tuple #[.bool false],w,G,.inl ?_,Ext.refl _ _,hi,β,R,hf.put (d := dst) (x := .v (.tuple [.bool false])) hd ?_ (fun _ h => h.elim)⟩
      ·rw [← hbo] at hx
       obtain ⟨y,hy,rfl⟩ := List.mem_map.1 hx
       exact g1 y hy
      ·simp [execOp,hvx,g2]
      ·refine Rep.tuple _ [.bool false] rfl ?_
       intro i x v hx hv
       rcases i with _ | i
       ·simp at hx hv; subst hx hv; exact .bool _
       ·simp at hx
     ·have hkl : i < kv.length := by
       have := (Array.getElem?_eq_some_iff.1 g1).1
       omega
      obtain ⟨p,hp⟩ : ∃ p,kv[i]? = some p := ⟨_,List.getElem?_eq_getElem hkl⟩
      obtain ⟨r1,r2⟩ := hr i p.1 p.2 e hp g1
      have hK := h4 i e.born p (hbm i e g1) g2 hp
      obtain ⟨x1,i1,f1⟩ : Ext G w G w1 ∧ Inv G w1 ∧ FRelB G w1 β R a st := by
       rcases g3 with rfl | rfl
       ·exact ⟨Ext.refl _ _,hi,hf⟩
       ·exact ⟨(drew_grow hi).1,(drew_grow hi).2,drew_frame hf hi⟩
      obtain ⟨z1,z2,z3⟩ := f1.mputR i1 hit (o := .mapIter (some bm) since (seen.toArray.push e.born) clock) (y := .miter bm since (seen ++ [e.born]) clock) (fun w' hw' _ => by show w'.heap[b]? = _; rw [hw']; simp) hd (z := .tuple [.bool true,p.1,p.2]) (v := .tuple #[.bool true,e.key,e.val])
       (rep_three (.bool _) (r1.ext x1) (r2.ext x1))
      refine ⟨_,hK,_,_,G,.inl ?_,x1.trans z1,z2,z3⟩
      simp [execOp,hvx,g4]
    ·exact h.elim
   ·exact h.elim
  ·exact h.elim
 case entry x =>
  split at h
  ·rename_i b hxv
   split at h
   ·rename_i bm since seen c0 hit
    split at h
    ·rename_i kv born clock hm
     obtain ⟨rfl,hn,j,s,p,g1,g2,g3,hK⟩ := h
     obtain ⟨es,hb,hbo,hl,hr⟩ := mapS_inv hf hm
     have hx := sv 0 x; rw [hxv] at hx
     have hvx := rep_ptr (srep_v hx)
     have hib : w.heap[b]? = some (.mapIter (some bm) since seen.toArray clock) := (hf.mem b _ hit).2.2.2.2
     have hjl : j < es.size := by
      have := (List.getElem?_eq_some_iff.1 g3).1
      omega
     have he : es[j]? = some es[j] := Array.getElem?_eq_getElem hjl
     have hes : (es[j]).born = s := by
      rw [← hbo,List.getElem?_map,Array.getElem?_toList,he] at g2
      simpa using g2
     obtain ⟨r1,r2⟩ := hr j p.1 p.2 es[j] g3 he
     have hfind : es.find? (fun x => x.born == s) = some es[j] := by
      rw [← Array.find?_toList,← hes]
      exact find_born _ _ (by rw [hbo]; exact hn) (by simp)
     refine ⟨_,hK,.tuple #[(es[j]).key,(es[j]).val],w,G,.inl ?_,Ext.refl _ _,hi,β,R,hf.put (d := dst) (x := .v (.tuple [p.1,p.2])) hd (rep_pair r1 r2) (fun _ h => h.elim)⟩
     have hbk : seen.toArray.back? = some s := by simpa using g1
     simp [execOp,hvx,Instr.entry,getObj,Sem.run_bind,Sem.run,hib,hb,Result.andThen,hbk,hfind]
    ·exact h.elim
   ·exact h.elim
  ·exact h.elim
theorem vcX_sound (hE : EnvOk E) {o : Oper} {K : St → Prop} (h : vcX E o K st) (hd : dstOk n o = true) (hi : Inv G w) (hf : FRel G w a st) (hs : a.tmps.size = n) {r : Option Nat}
  {next : Act → World → Prop} {Q : Exit → Act → World → Prop} (hn : ∀ a' w' G' st',Ext G w G' w' → Inv G' w' → FRel G' w' a' st' → a'.tmps.size = n → K st' → next a' w') : o.wpIn (fen r) 0 E.P a w next Q := by
 have hd' : ∀ t,o.dst = some t → t < a.tmps.size := fun t ht => by rw [hs]; simpa [dstOk,ht] using hd
 obtain ⟨β,R,hf⟩ := hf
 obtain ⟨hnd,e,hk,v,w',G',hr,hx,hi',hf'⟩ := evX_sound hE h hi hf hd'
 have hnn := hn (a.put o.dst v) w' G' _ hx hi' hf' (by rw [put_size]; exact hs) hk
 refine oper_in hnd ?_
 rcases hr with hr | ⟨hr,rfl⟩ <;> rw [hr]
 ·exact hnn
 ·exact hnn
end
end Go.Proofs.YtdmejgfcaacdoaaGreat.Abs
/- The abstract machine,part 41: statements whose order is open,by what holds of what has been done. -/
namespace Go.Proofs.YtdmejgfcaacdoaaGreat.Abs
set_option linter.unusedSimpArgs false
open Go Go.RowKit
def orderOk (ops : Array Oper) : Bool := (List.range ops.size).all fun i => ((ops[i]?).map fun o => o.guard.isNone && o.after.all fun e => !Region.binds .any e || decide (e.on < i)).getD false
def waitsOk (o : Oper) (D : Nat → Bool) : Bool := o.after.all fun e => !Region.binds .any e || D e.on
theorem ready_mem {ops : Array Oper} {L : Array Bool} {i : Nat} (h : i ∈ Region.ready .any ops L) : i < ops.size ∧ L.getD i true = false ∧ ∃ o,ops[i]? = some o ∧ waitsOk o (fun k => L.getD k false) = true := by
 unfold Region.ready at h
 rw [List.mem_filter,List.mem_range,Bool.and_eq_true] at h
 obtain ⟨h1,h2,h3⟩ := h
 refine ⟨h1,by simpa using h2,ops[i],Array.getElem?_eq_getElem h1,?_⟩
 rw [Array.getElem?_eq_getElem h1] at h3
 simpa [waitsOk] using h3
theorem ready_nil {ops : Array Oper} (ho : orderOk ops = true) {L : Array Bool} (hl : L.size = ops.size) (h : Region.ready .any ops L = []) : ∀ i,i < ops.size → L.getD i false = true := by
 intro i
 induction i using Nat.strongRecOn with
 | ind i ih =>
  intro hi
  apply Decidable.byContradiction
  intro hn
  have hf : L.getD i true = false := by
   rw [Array.getD_eq_getD_getElem?,Array.getElem?_eq_getElem (by omega)] at hn ⊢
   simpa using hn
  have : i ∈ Region.ready .any ops L := by
   unfold Region.ready
   rw [List.mem_filter,List.mem_range,Bool.and_eq_true]
   refine ⟨hi,by rw [hf]; rfl,?_⟩
   have h1 := List.all_eq_true.1 ho i (List.mem_range.2 hi)
   rw [Array.getElem?_eq_getElem hi] at h1 ⊢
   simp only [Option.map_some,Option.getD_some,Bool.and_eq_true] at h1 ⊢
   rw [Array.all_eq_true] at h1 ⊢
   intro k hk
   have h2 := h1.2 k hk
   rw [Bool.or_eq_true,decide_eq_true_eq] at h2
   rcases h2 with h2 | h2
   ·rw [h2]; rfl
   ·rw [ih _ h2 (by omega)]; simp
  rw [h] at this
  cases this
section
variable {E : Env} {n : Nat}
def openN (L : Array Bool) : Nat := (L.toList.filter fun b => !b).length
theorem open_set : ∀ (l : List Bool) (i : Nat),l[i]? = some false → ((l.set i true).filter fun b => !b).length + 1 = (l.filter fun b => !b).length
 | [],i,h => by simp at h
 | a :: l,0,h => by
  simp at h
  subst h
  simp
 | a :: l,i + 1,h => by
  have := open_set l i (by simpa using h)
  simp only [List.set_cons_succ,List.filter_cons]
  split
  ·simp only [List.length_cons]; omega
  ·exact this
theorem openN_set {L : Array Bool} {i : Nat} (hi : i < L.size) (h : L.getD i true = false) : openN (L.setIfInBounds i true) + 1 = openN L := by
 have hb : L.toList[i]? = some false := by
  rw [Array.getElem?_toList,Array.getElem?_eq_getElem hi]
  rw [Array.getD_eq_getD_getElem?,Array.getElem?_eq_getElem hi] at h
  simpa using h
 unfold openN
 rw [Array.toList_setIfInBounds]
 exact open_set L.toList i hb
theorem adrawS0 (_hE : EnvOk E) (_hm : E.P.follows .mixedOrders = true) {V : Oper → (St → Prop) → St → Prop}
  (hV : ∀ {o : Oper} {K : St → Prop} {st : St},V o K st → dstOk n o = true → ∀ {G : Gh} {w : World} {a : Act},Inv G w → FRel G w a st → a.tmps.size = n → ∀ {r : Option Nat} {next : Act → World → Prop} {Q : Exit → Act → World → Prop},
   (∀ a' w' G' st',Ext G w G' w' → Inv G' w' → FRel G' w' a' st' → a'.tmps.size = n → K st' → next a' w') → o.wpIn (fen r) 0 E.P a w next Q)
  {ops : Array Oper} (hok : orderOk ops = true) {r : Option Nat} {Q : Exit → Act → World → Prop} {G0 : Gh} {w0 : World} (hd : ops.toList.all (dstOk n) = true) (I : (Nat → Bool) → St → Prop)
  (hstep : ∀ (D : Nat → Bool) (i : Nat) (o : Oper) (st : St),ops[i]? = some o → D i = false → waitsOk o D = true → I D st → V o (I (upd D i true)) st)
  (hQ : ∀ a w G st D,Ext G0 w0 G w → Inv G w → FRel G w a st → a.tmps.size = n → (∀ i,i < ops.size → D i = true) → I D st → Q .normal a w) :
  ∀ (fuel : Nat) (L : Array Bool) (st : St) (G : Gh) (w : World) (a : Act),L.size = ops.size → openN L ≤ fuel → Ext G0 w0 G w → Inv G w → FRel G w a st → a.tmps.size = n → I (fun k => L.getD k false) st → wpAnyIn (fen r) 0 E.P .any ops Q fuel L a w := by
 intro fuel
 induction fuel with
 | zero =>
  intro L st G w a hl ho hx hi hf hs hI
  have hnil : Region.ready .any ops L = [] := by
   cases hr : Region.ready .any ops L with
   | nil => rfl
   | cons i R =>
    obtain ⟨h1,h2,_⟩ := ready_mem (by rw [hr]; exact List.mem_cons_self : i ∈ Region.ready .any ops L)
    have := openN_set (by omega) h2
    omega
  exact ⟨hnil,hQ a w G st _ hx hi hf hs (ready_nil hok hl hnil) hI⟩
 | succ fuel ih =>
  intro L st G w a hl ho hx hi hf hs hI
  refine ⟨fun hnil => hQ a w G st _ hx hi hf hs (ready_nil hok hl hnil) hI,fun i hir => ?_⟩
  obtain ⟨h1,h2,o,h3,h4⟩ := ready_mem hir
  have hop := openN_set (by omega : i < L.size) h2
  have hgo : o.guard = Option.none := by
   have := List.all_eq_true.1 hok i (List.mem_range.2 h1)
   rw [h3] at this
   simp only [Option.map_some,Option.getD_some,Bool.and_eq_true,Option.isNone_iff_eq_none] at this
   exact this.1
  have hdo : dstOk n o = true := List.all_eq_true.1 hd o (by have := Array.mem_of_getElem? h3; simpa using this)
  have hD : L.getD i false = false := by
   rw [Array.getD_eq_getD_getElem?,Array.getElem?_eq_getElem (by omega)] at h2 ⊢
   simpa using h2
  have hv := hstep (fun k => L.getD k false) i o st h3 hD h4 hI
  have hu : upd (fun k => L.getD k false) i true = fun k => (L.setIfInBounds i true).getD k false := by
   funext k
   by_cases e : k = i
   ·subst e
    rw [upd_same,Array.getD_eq_getD_getElem?,Array.getElem?_setIfInBounds_self_of_lt (by omega)]
    rfl
   ·rw [upd_ne _ _ e,Array.getD_eq_getD_getElem?,Array.getD_eq_getD_getElem?,Array.getElem?_setIfInBounds_ne (Ne.symm e)]
  rw [hu] at hv
  unfold wpOpIn
  rw [h3]
  dsimp only
  rw [if_pos (by simp [Region.wanted,hgo])]
  exact hV hv hdo hi hf hs fun a' w' G' st' hx' hi' hf' hs' hk => ih (L.setIfInBounds i true) st' G' w' a' (by simpa using hl) (by omega) (hx.trans hx') hi' hf' hs' hk
theorem adrawS (hE : EnvOk E) (hm : E.P.follows .mixedOrders = true) {V : Oper → (St → Prop) → St → Prop}
  (hV : ∀ {o : Oper} {K : St → Prop} {st : St},V o K st → dstOk n o = true → ∀ {G : Gh} {w : World} {a : Act},Inv G w → FRel G w a st → a.tmps.size = n → ∀ {r : Option Nat} {next : Act → World → Prop} {Q : Exit → Act → World → Prop},
   (∀ a' w' G' st',Ext G w G' w' → Inv G' w' → FRel G' w' a' st' → a'.tmps.size = n → K st' → next a' w') → o.wpIn (fen r) 0 E.P a w next Q)
  {ops : Array Oper} (hok : orderOk ops = true) {K : St → Prop} {st : St} (I : (Nat → Bool) → St → Prop) (H : Head) (hH : H.ok = true) (h0 : I (fun _ => false) st)
  (hstep : ∀ (D : Nat → Bool) (i : Nat) (o : Oper) (st : St),ops[i]? = some o → D i = false → waitsOk o D = true → I D st → V o (I (upd D i true)) st)
  (hend : ∀ D st,(∀ i,i < ops.size → D i = true) → I D st → Fits st H) (hk : K H.st) : ADraw E n ops K st .mk := by
 refine ⟨fun hd id r _ G w a hi hf hs => ?_⟩
 refine wpIn_region_any hm ?_
 have hx : Ext G w G { w with drawn := w.drawn + 1 } := ⟨rfl,rfl,Nat.le_refl _,fun _ => Nat.le_refl _,fun _ _ _ => rfl,fun _ _ => ⟨rfl,rfl⟩⟩
 refine adrawS0 hE hm hV hok (G0 := G) (w0 := w) hd I hstep (fun a' w' G' st' D hx' hi' hf' hs' hD hI => ?_) ops.size (Array.replicate ops.size false) st G { w with drawn := w.drawn + 1 } a (by simp) ?_ hx hi.drew hf.drew hs ?_
 ·exact ⟨G',H.st,hx'.toL,hi',hf'.weaken (hend D st' hD hI) hH,hs',rfl,hk⟩
 ·unfold openN
  simp
 ·have : (fun k => (Array.replicate ops.size false).getD k false) = fun _ : Nat => false := by
   funext k
   rw [Array.getD_eq_getD_getElem?]
   by_cases e : k < ops.size
   ·rw [Array.getElem?_replicate,if_pos e]; rfl
   ·rw [Array.getElem?_replicate,if_neg e]; rfl
  rw [this]; exact h0
end
def isX : Op → Bool
 | .makeMap .. | .lookup .. | .mapEntry .. | .entryStore .. | .range .. | .next .. | .entry .. => true
 | _ => false
def vcV (E : Env) (o : Oper) (K : St → Prop) (st : St) : Prop := if isX o.op = true then vcX E o K st else vcOp E o K st
theorem vcV_sound {E : Env} {n : Nat} {G : Gh} {w : World} {a : Act} {st : St} (hE : EnvOk E) {o : Oper} {K : St → Prop} (h : vcV E o K st) (hd : dstOk n o = true) (hi : Inv G w) (hf : FRel G w a st) (hs : a.tmps.size = n) {r : Option Nat}
  {next : Act → World → Prop} {Q : Exit → Act → World → Prop} (hn : ∀ a' w' G' st',Ext G w G' w' → Inv G' w' → FRel G' w' a' st' → a'.tmps.size = n → K st' → next a' w') : o.wpIn (fen r) 0 E.P a w next Q := by
 unfold vcV at h
 split at h
 ·exact vcX_sound hE h hd hi hf hs hn
 ·exact vcOp_sound hE h hd hi hf hs hn
end Go.Proofs.YtdmejgfcaacdoaaGreat.Abs
/- The abstract machine,part 42: copies of a list into the first cells of a variable of one's own. -/
namespace Go.Proofs.YtdmejgfcaacdoaaGreat.Abs
set_option linter.unusedSimpArgs false
open Go Go.RowKit
def vcCopyLL (E : Env) (t : TypeId) (d s : SV) (loc : Nat → Option (List AV)) (K : Eff → Prop) : Prop :=
 match E.T t,d,s with
 | some ⟨.slice e,_,_,_⟩,.lslice i off len _,.v (.slice sz l) => match E.T e,loc i with
  | some ei,some cells => (ei.size = sz ∧ l.length ≤ len ∧ off + l.length * sz ≤ cells.length) ∧ K (.setp (.int .i64 l.length) i (overlay cells off (l.map AV.cells).flatten))
  | _,_ => False
 | _,_,_ => False
def vcCopyL (E : Env) (o : Oper) (K : St → Prop) (st : St) : Prop :=
 match o.op with
 | .call c => match c.callee,c.argTypes.toList,c.args.toList with
  | .builtin .copy,[t,t2],[x,y] => vcCopyLL E t (st.sv E.T t x) (st.sv E.T t2 y) st.loc fun e => K (st.eff o.dst e)
  | _,_,_ => False
 | _ => False
section
variable {E : Env} {n : Nat} {G : Gh} {w : World} {a : Act} {st : St} {β : Nat → Nat} {R : Nat → Role}
theorem copyL_sound (hE : EnvOk E) (hf : FRelB G w β R a st) (hi : Inv G w) {t : TypeId} {x y : SV} {K : Eff → Prop} (h : vcCopyLL E t x y st.loc K) {vx vy : Value} (hx : SRep G.com w β x vx) (hy : SRep G.com w β y vy) {d : Option Tmp}
  (hd : ∀ t,d = some t → t < a.tmps.size) (ts : List TypeId) (vs : List Value) (ty : TypeId) :
  ∃ e v w',K e ∧ (Builtin.copy_ (t :: ts).toArray ty (vx :: vy :: vs).toArray).run E.P w = .ok v w' ∧ Ext G w G w' ∧ Inv G w' ∧ FRel G w' (a.put d v) (st.eff d e) := by
 unfold vcCopyLL at h
 split at h
 ·rename_i e _ _ _ i off len cap sz l hT
  split at h
  ·rename_i ei cells hTe hl
   obtain ⟨⟨rfl,hll,hle⟩,hk⟩ := h
   have hmin2 : l.length.min len = l.length := Nat.min_eq_left hll
   obtain ⟨dd,hu,hdd⟩ := (hE _ _ hT).desc
   cases dd <;> simp only [descOk] at hdd
   subst hdd
   have hsz := (hE _ _ hTe).size w
   obtain ⟨hlc,off',rfl,hoff⟩ := hx
   obtain ⟨cs,hrow,hfl,hfc,hlen,hml⟩ := slice_row (srep_v hy)
   have hf1 := hfc E.P w (fun _ => rfl)
   have hl1 := hlen E.P w
   obtain ⟨⟨k1,k2,k3,old,eo,hb,hrc⟩,k5⟩ := hf.loc i cells hl
   have hcl : cs.length = l.length * ei.size := hrow.1
   have hrcs : Reps G.com w (l.map AV.cells).flatten cs := hrow.flat
   have hol : old.length = cells.length := hrc.1.symm
   have hst : (storeCells ⟨β i,off',none⟩ cs).run E.P w = .ok () (w.setBlock' (β i) (.cells (writeAt old off cs).toArray eo (0,0))) := by
    rcases hoff with rfl | h0
    ·have := storeCells_run (P := E.P) (b := β i) (off := off') (e := eo) cs 0 w old hb (by rw [hcl,hol]; omega) (row_plain hrow hfl)
     simpa using this
    ·have hl0 : l.length = 0 := by omega
     have hc0 : cs = [] := by
      apply List.eq_nil_of_length_eq_zero
      rw [hcl,hl0,Nat.zero_mul]
     subst hc0
     have e1 : writeAt old off [] = old := by
      unfold writeAt; simp
     rw [e1]
     have e2 : w.setBlock' (β i) (.cells old.toArray eo (0,0)) = w := by
      unfold World.setBlock'
      have hlt := (Array.getElem?_eq_some_iff.1 hb)
      congr 1
      apply Array.ext_getElem?
      intro k
      by_cases hk : β i = k
      ·subst hk; simp [hb,hlt.1]; exact hlt.2.symm
      ·simp [Array.getElem?_setIfInBounds_ne hk]
     rw [e2]; rfl
   obtain ⟨h1,h2,h3⟩ := hf.set hi hl (e := eo) (hrc.overlay hrcs off) none (fun t ht => by cases ht)
   have h3' : FRelB G _ β R a { st with loc := upd st.loc i (some (overlay cells off (l.map AV.cells).flatten)) } := h3
   refine ⟨_,.int .i64 l.length,_,hk,?_,h1,h2,β,R,h3'.put (d := d) (x := .v (.int .i64 l.length)) hd (.int _ _) (fun _ h => h.elim)⟩
   simp [Builtin.copy_,Sem.run_bind,run_underlying hu,Result.andThen_ok,hl1,hsz,hf1,hst,hmin2,goInt]
  ·exact h.elim
 ·exact h.elim
theorem vcCopyL_sound (hE : EnvOk E) {o : Oper} {K : St → Prop} (h : vcCopyL E o K st) (hd : dstOk n o = true) (hi : Inv G w) (hf : FRel G w a st) (hs : a.tmps.size = n) {r : Option Nat}
  {next : Act → World → Prop} {Q : Exit → Act → World → Prop} (hn : ∀ a' w' G' st',Ext G w G' w' → Inv G' w' → FRel G' w' a' st' → a'.tmps.size = n → K st' → next a' w') : o.wpIn (fen r) 0 E.P a w next Q := by
 have hd' : ∀ t,o.dst = some t → t < a.tmps.size := fun t ht => by rw [hs]; simpa [dstOk,ht] using hd
 obtain ⟨β,R,hf⟩ := hf
 unfold vcCopyL at h
 split at h
 ·rename_i c hop
  split at h
  ·rename_i t t2 x y hcb hts hys
   obtain ⟨e,v,w',hk,hr,hx,hi',hf'⟩ := copyL_sound hE hf hi h (hf.eval E.T t x) (hf.eval E.T t2 y) hd' [t2] [] o.type
   have hnn := hn (a.put o.dst v) w' G _ hx hi' hf' (by rw [put_size]; exact hs) hk
   have hexec : (execOp a.eval o).run E.P w = .ok (.value v) w' := by
    have e1 : c.argTypes = #[t,t2] := by apply Array.ext'; simp [hts]
    have e2 : c.args.map a.eval = #[a.eval x,a.eval y] := by apply Array.ext'; rw [Array.toList_map,hys]; rfl
    have hr2 : (Builtin.copy_ #[t,t2] o.type #[a.eval x,a.eval y]).run E.P w = .ok v w' := hr
    unfold execOp
    simp only [hop,resolve,hcb,Sem.run_bind,Sem.run_pure,Result.andThen_ok,invoke]
    rw [e1,e2]
    simp [builtin,hr2]
   refine oper_in (fun c hc => by rw [hop] at hc; cases hc) ?_
   rw [hexec]
   exact hnn
  ·exact h.elim
 ·exact h.elim
end
end Go.Proofs.YtdmejgfcaacdoaaGreat.Abs
/- The abstract machine,part 43: strings to bytes,runes to strings. -/
namespace Go.Proofs.YtdmejgfcaacdoaaGreat.Abs
set_option linter.unusedSimpArgs false
open Go Go.RowKit
def bytesAV (s : ByteArray) : List AV := s.data.toList.map fun b => AV.int .u8 (b.toNat : Int)
def vcConvS (E : Env) (o : Oper) (K : St → Prop) (st : St) : Prop :=
 match o.op with
 | .convert s d x => match E.T s,E.T d,st.sv E.T s x with
  | some ⟨.string,_,_,_⟩,some ⟨.slice e,_,_,_⟩,.v (.str t) => match E.T e with
   | some ⟨.int .u8,_,_,_⟩ => t.size ≤ maxLen ∧ K (st.put o.dst (.v (.slice 1 (bytesAV t))) false)
   | _ => False
  | some _,some ⟨.string,_,_,_⟩,.v (.int _ n) => K (st.put o.dst (.v (.str (Utf8.encode n))) false)
  | _,_,_ => False
 | _ => False
section
variable {E : Env} {n : Nat} {G : Gh} {w : World} {a : Act} {st : St}
theorem bytesAV_length (s : ByteArray) : (bytesAV s).length = s.size := by simp [bytesAV]
theorem bytes_row {com : Nat → Nat} (s : ByteArray) (cap : Nat) : RowRep com w 1 (bytesAV s) ((bytesRow s cap).toList.take s.size) := by
 have hl : ((bytesRow s cap).toList.take s.size) = s.data.toList.map fun b => Value.int .u8 (b.toNat : Int) := by
  unfold bytesRow
  rw [Array.toList_append,Array.toList_map]
  exact List.take_left' (by simp)
 rw [hl]
 refine ⟨by simp [bytesAV],fun e he => ?_,fun k e j x v hk hj hv => ?_⟩
 ·obtain ⟨b,_,rfl⟩ := List.mem_map.1 he
  rfl
 ·unfold bytesAV at hk
  rw [List.getElem?_map] at hk
  cases hb : s.data.toList[k]? with
  | none => rw [hb] at hk; cases hk
  | some b =>
   rw [hb] at hk
   cases hk
   have hj0 : j = 0 := by
    have := (List.getElem?_eq_some_iff.1 hj).1
    simp [AV.cells] at this
    exact this
   subst hj0
   simp [AV.cells] at hj
   subst hj
   rw [Nat.mul_one,Nat.add_zero,List.getElem?_map,hb] at hv
   cases hv
   exact .int _ _
theorem vcConvS_sound (hE : EnvOk E) {o : Oper} {K : St → Prop} (h : vcConvS E o K st) (hd : dstOk n o = true) (hi : Inv G w) (hf : FRel G w a st) (hs : a.tmps.size = n) {r : Option Nat}
  {next : Act → World → Prop} {Q : Exit → Act → World → Prop} (hn : ∀ a' w' G' st',Ext G w G' w' → Inv G' w' → FRel G' w' a' st' → a'.tmps.size = n → K st' → next a' w') : o.wpIn (fen r) 0 E.P a w next Q := by
 have hd' : ∀ t,o.dst = some t → t < a.tmps.size := fun t ht => by rw [hs]; simpa [dstOk,ht] using hd
 obtain ⟨β,R,hf⟩ := hf
 unfold vcConvS at h
 split at h
 ·rename_i s d x hop
  split at h
  ·rename_i sz1 by1 z1 e sz2 by2 z2 t hTs hTd hx
   split at h
   ·rename_i sz3 by3 z3 hTe
    obtain ⟨hml,hk⟩ := h
    obtain ⟨d1,hu1,hd1⟩ := (hE _ _ hTs).desc
    cases d1 <;> simp only [descOk] at hd1
    obtain ⟨d2,hu2,hd2⟩ := (hE _ _ hTd).desc
    cases d2 <;> simp only [descOk] at hd2
    subst hd2
    obtain ⟨d3,hu3,hd3⟩ := (hE _ _ hTe).desc
    cases d3 <;> simp only [descOk] at hd3
    subst hd3
    have hxv := hf.eval E.T s x
    rw [hx] at hxv
    have hxs := rep_str (srep_v hxv)
    have hrun := run_bytes_of_string (P := E.P) w s d e t hu1 hu2 hu3
    have hge := grownCap_ge w t.size 0 e
    have hcm := grownCap_le_maxLen w t.size 0 e hml
    have hbs : (bytesRow t (grownCap w t.size 0 e)).size = grownCap w t.size 0 e := by
     unfold bytesRow
     simp at hge ⊢
     omega
    generalize grownCap w t.size 0 e = cap at *
    obtain ⟨x1,i1⟩ := drew_grow hi
    have f1 := drew_frame hf hi
    have hcc : (t.size ≠ 0) → ∃ cs' e' fz,(Obj.cells (bytesRow t cap) e ((bytesRow t cap).size,(bytesRow t cap).size + 1)) = .cells cs' e' fz ∧ t.size ≤ cs'.size := fun _ => ⟨_,_,_,rfl,by rw [hbs]; exact hge⟩
    obtain ⟨x2,i2⟩ := alloc_grow i1 (.cells (bytesRow t cap) e ((bytesRow t cap).size,(bytesRow t cap).size + 1)) t.size hcc
    have f2 := f1.alloc i1 (.cells (bytesRow t cap) e ((bytesRow t cap).size,(bytesRow t cap).size + 1)) t.size hcc
    have hb := heap_alloc_new w.drew (.cells (bytesRow t cap) e ((bytesRow t cap).size,(bytesRow t cap).size + 1))
    have hrep : Rep (G.setCom w.drew.heap.size t.size).com (w.drew.alloc (.cells (bytesRow t cap) e ((bytesRow t cap).size,(bytesRow t cap).size + 1))) (.slice 1 (bytesAV t)) (.slice (some ⟨w.drew.heap.size,0,none⟩) t.size cap) := by
     have hrow := (bytes_row (w := w.drew.alloc (.cells (bytesRow t cap) e ((bytesRow t cap).size,(bytesRow t cap).size + 1))) (com := (G.setCom w.drew.heap.size t.size).com) t cap)
     have := hrow.slice (fun e he => by obtain ⟨b,_,rfl⟩ := List.mem_map.1 he; rfl) (b := w.drew.heap.size) (off := 0) (cap := cap) (by rw [bytesAV_length]; exact hge) hcm (by rw [bytesAV_length]; simp [Gh.setCom,upd_same]) (fun i hi => by
      have hbl : (bytesRow t cap) = (bytesRow t cap).toList.toArray := by simp
      rw [hbl] at hb
      rw [bytesAV_length,Nat.mul_one] at hi
      rw [Nat.zero_add,List.getElem?_take,if_pos hi]
      simp only [World.cell?]
      rw [hb]
      simp)
     rw [bytesAV_length] at this
     exact this
    have hput := f2.put (d := o.dst) (x := .v (.slice 1 (bytesAV t))) hd' hrep (fun _ h => h.elim)
    have hexec : (execOp a.eval o).run E.P w = .ok (.value (.slice (some ⟨w.heap.size,0,none⟩) t.size cap)) (w.drew.alloc (.cells (bytesRow t cap) e ((bytesRow t cap).size,(bytesRow t cap).size + 1))) := by
     simp [execOp,hop,hxs,hrun]
    refine oper_in (fun c hc => by rw [hop] at hc; cases hc) ?_
    rw [hexec]
    exact hn _ _ _ _ (x1.trans x2) i2 ⟨β,R,hput⟩ (by rw [put_size]; exact hs) hk
   ·exact h.elim
  ·rename_i ts sz2 by2 z2 kk m hTs hTd hx
   obtain ⟨d1,hu1,hd1⟩ := (hE _ _ hTs).desc
   obtain ⟨d2,hu2,hd2⟩ := (hE _ _ hTd).desc
   cases d2 <;> simp only [descOk] at hd2
   have hxv := hf.eval E.T s x
   rw [hx] at hxv
   have hxs := rep_int (srep_v hxv)
   have hrun := run_convert_int_string (P := E.P) w s d kk m (by rw [hu1]; rfl) hu2
   have hput := hf.put (d := o.dst) (x := .v (.str (Utf8.encode m))) (v := .string (Utf8.encode m)) hd' (.str _) (fun _ h => h.elim)
   have hexec : (execOp a.eval o).run E.P w = .ok (.value (.string (Utf8.encode m))) w := by
    simp [execOp,hop,hxs,hrun]
   refine oper_in (fun c hc => by rw [hop] at hc; cases hc) ?_
   rw [hexec]
   exact hn _ _ _ _ (Ext.refl _ _) hi ⟨β,R,hput⟩ (by rw [put_size]; exact hs) h
  ·exact h.elim
 ·exact h.elim
end
end Go.Proofs.YtdmejgfcaacdoaaGreat.Abs
/- The abstract machine,part 44: a cut all of whose operations are walked by a rule of their own. -/
namespace Go.Proofs.YtdmejgfcaacdoaaGreat.Abs
set_option linter.unusedSimpArgs false
open Go Go.RowKit
def vcAll (V : Oper → (St → Prop) → St → Prop) : List Oper → (St → Prop) → St → Prop
 | [],K,st => K st
 | o :: os,K,st => V o (vcAll V os K) st
def isConv : Op → Bool
 | .convert .. => true
 | _ => false
def vcW (E : Env) (o : Oper) (K : St → Prop) (st : St) : Prop := if isConv o.op = true then (vcConvS E o K st ∨ vcOp E o K st) else vcOp E o K st
section
variable {E : Env} {n : Nat}
theorem vcW_sound {G : Gh} {w : World} {a : Act} {st : St} (hE : EnvOk E) {o : Oper} {K : St → Prop} (h : vcW E o K st) (hd : dstOk n o = true) (hi : Inv G w) (hf : FRel G w a st) (hs : a.tmps.size = n) {r : Option Nat}
  {next : Act → World → Prop} {Q : Exit → Act → World → Prop} (hn : ∀ a' w' G' st',Ext G w G' w' → Inv G' w' → FRel G' w' a' st' → a'.tmps.size = n → K st' → next a' w') : o.wpIn (fen r) 0 E.P a w next Q := by
 unfold vcW at h
 split at h
 ·rcases h with h | h
  ·exact vcConvS_sound hE h hd hi hf hs hn
  ·exact vcOp_sound hE h hd hi hf hs hn
 ·exact vcOp_sound hE h hd hi hf hs hn
theorem vcAll_sound {V : Oper → (St → Prop) → St → Prop}
  (hV : ∀ {o : Oper} {K : St → Prop} {st : St},V o K st → dstOk n o = true → ∀ {G : Gh} {w : World} {a : Act},Inv G w → FRel G w a st → a.tmps.size = n → ∀ {r : Option Nat} {next : Act → World → Prop} {Q : Exit → Act → World → Prop},
   (∀ a' w' G' st',Ext G w G' w' → Inv G' w' → FRel G' w' a' st' → a'.tmps.size = n → K st' → next a' w') → o.wpIn (fen r) 0 E.P a w next Q)
  {ops0 : Array Oper} {r : Option Nat} {Q : Exit → Act → World → Prop} {K : St → Prop} {G0 : Gh} {w0 : World}
  (hQ : ∀ a w G st,Ext G0 w0 G w → Inv G w → FRel G w a st → a.tmps.size = n → K st → Q .normal a w) :
  ∀ (ops : List Oper),ops.all (dstOk n) = true → ops.all (fun o => o.guard.isNone) = true → ∀ (st : St) (G : Gh) (w : World) (a : Act),Ext G0 w0 G w → Inv G w → FRel G w a st → a.tmps.size = n → vcAll V ops K st → wpListIn (fen r) 0 E.P ops0 Q ops a w
 | [],_,_,st,G,w,a,hx,hi,hf,hs,h => by
  unfold wpListIn
  exact hQ a w G st hx hi hf hs h
 | o :: os,hd,hg,st,G,w,a,hx,hi,hf,hs,h => by
  rw [List.all_cons,Bool.and_eq_true] at hd hg
  have hgo : o.guard = none := by simpa using hg.1
  unfold wpListIn
  rw [if_pos (by simp [Region.wanted,hgo])]
  exact hV h hd.1 hi hf hs fun a1 w1 G1 st1 x1 i1 f1 s1 k1 => vcAll_sound hV hQ os hd.2 hg.2 st1 G1 w1 a1 (hx.trans x1) i1 f1 s1 k1
theorem acut_all {V : Oper → (St → Prop) → St → Prop}
  (hV : ∀ {o : Oper} {K : St → Prop} {st : St},V o K st → dstOk n o = true → ∀ {G : Gh} {w : World} {a : Act},Inv G w → FRel G w a st → a.tmps.size = n → ∀ {r : Option Nat} {next : Act → World → Prop} {Q : Exit → Act → World → Prop},
   (∀ a' w' G' st',Ext G w G' w' → Inv G' w' → FRel G' w' a' st' → a'.tmps.size = n → K st' → next a' w') → o.wpIn (fen r) 0 E.P a w next Q)
  {ops : Array Oper} {K : St → Prop} {st : St} {α : Type} (hg : ops.toList.all (fun o => o.guard.isNone) = true) (I : α → Head) (J : α → Prop) (hok : ∀ x,(I x).ok = true)
  (h : vcAll V ops.toList (fun st' => ∃ x,J x ∧ Fits st' (I x)) st) (hk : ∀ x,J x → K (I x).st) : ACut E n ops K st .mk := by
 refine ⟨fun hc id r hrd G w a hi hf hs => wpIn_region_list ?_⟩
 refine vcAll_sound hV (K := fun st' => ∃ x,J x ∧ Fits st' (I x)) (G0 := G) (w0 := w) ?_ ops.toList hc hg st G w a (Ext.refl _ _) hi hf hs h
 rintro a3 w3 G3 st3 x3 i3 f3 s3 ⟨x,hj,hfit⟩
 exact ⟨G3,(I x).st,x3.toL,i3,f3.weaken hfit (hok x),s3,rfl,hk x hj⟩
end
end Go.Proofs.YtdmejgfcaacdoaaGreat.Abs
/- The abstract machine,part 45: a slice of an array that never changes. -/
namespace Go.Proofs.YtdmejgfcaacdoaaGreat.Abs
set_option linter.unusedSimpArgs false
open Go Go.RowKit
def vcSliceE (E : Env) (o : Oper) (K : St → Prop) (st : St) : Prop :=
 match o.op with
 | .slice t x none none none => match E.T t,st.sv E.T t x with
  | some ⟨.array n e,_,_,_⟩,.v (.eptr l) => match E.T e with
   | some i => (i.size = 1 ∧ l.length = n ∧ 0 < n ∧ n ≤ maxLen ∧ l.all flat = true) ∧ K (st.put o.dst (.v (.slice 1 l)) false)
   | none => False
  | _,_ => False
 | _ => False
def isSliceE : Op → Bool
 | .slice .. => true
 | _ => false
def isCopy : Op → Bool
 | .call c => match c.callee with
  | .builtin .copy => true
  | _ => false
 | _ => false
def vcZ (E : Env) (o : Oper) (K : St → Prop) (st : St) : Prop := if isSliceE o.op = true then vcSliceE E o K st else vcOp E o K st
def vcZF (E : Env) (o : Oper) (K : St → Prop) (st : St) : Prop := if isCopy o.op = true then vcCopyF E o K st else vcZ E o K st
section
variable {E : Env} {n : Nat} {G : Gh} {w : World} {a : Act} {st : St}
theorem vcSliceE_sound (hE : EnvOk E) {o : Oper} {K : St → Prop} (h : vcSliceE E o K st) (hd : dstOk n o = true) (hi : Inv G w) (hf : FRel G w a st) (hs : a.tmps.size = n) {r : Option Nat}
  {next : Act → World → Prop} {Q : Exit → Act → World → Prop} (hn : ∀ a' w' G' st',Ext G w G' w' → Inv G' w' → FRel G' w' a' st' → a'.tmps.size = n → K st' → next a' w') : o.wpIn (fen r) 0 E.P a w next Q := by
 have hd' : ∀ t,o.dst = some t → t < a.tmps.size := fun t ht => by rw [hs]; simpa [dstOk,ht] using hd
 obtain ⟨β,R,hf⟩ := hf
 unfold vcSliceE at h
 split at h
 ·rename_i t x hop
  split at h
  ·rename_i m e sz0 by0 z0 l hT hx
   split at h
   ·rename_i i hTe
    obtain ⟨⟨h1,h2,h3,h4,h5⟩,hk⟩ := h
    obtain ⟨dd,hdd,hu,hr⟩ := run_und hE hT
    cases dd <;> simp only [descOk] at hdd
    obtain ⟨rfl,rfl⟩ := hdd
    have hsz := (hE _ _ hTe).size w
    have hxv := hf.eval E.T t x
    rw [hx] at hxv
    obtain ⟨b,off,vs,ev,q1,q2,q3⟩ := rep_eptr (srep_v hxv)
    have hc : ¬ m = 0 := by omega
    have hcell : ∀ e ∈ l,e.cells = [e] ∧ e.cells.all flat = true := fun e he => by
     have := List.all_eq_true.1 h5 e he
     cases e <;> first | exact ⟨rfl,rfl⟩ | (simp [flat] at this)
    have hrep : Rep G.com w (.slice 1 l) (.slice (some ⟨b,off,none⟩) l.length l.length) := by
     refine .slice 1 l b off l.length vs (fun e he => ⟨by rw [(hcell e he).1]; rfl,(hcell e he).2⟩) (Nat.le_refl _) (by omega) (by omega) (fun k hk => q2 k (by omega)) (fun k e j y hk hj => ?_)
     rw [(hcell e (List.mem_of_getElem? hk)).1] at hj
     have hj0 : j = 0 := by
      have := (List.getElem?_eq_some_iff.1 hj).1
      simp at this; exact this
     subst hj0
     simp at hj
     subst hj
     rw [Nat.mul_one,Nat.add_zero]
     exact q3 k _ hk
    have hrun : (execOp a.eval o).run E.P w = .ok (.value (.slice (some ⟨b,off,none⟩) l.length l.length)) w := by
     simp [execOp,hop,ev,Instr.sliceAt,Sem.run_bind,hr,Instr.sureAddr,Instr.sliceBounds,hsz,hc,h2,addr_add]
    refine oper_in (fun c hc => by rw [hop] at hc; cases hc) ?_
    rw [hrun]
    exact hn _ _ G _ (Ext.refl _ _) hi ⟨β,R,hf.put hd' (x := .v (.slice 1 l)) hrep (fun i h => h.elim)⟩ (by rw [put_size]; exact hs) hk
   ·exact h.elim
  ·exact h.elim
 ·exact h.elim
theorem vcZ_sound (hE : EnvOk E) {o : Oper} {K : St → Prop} (h : vcZ E o K st) (hd : dstOk n o = true) (hi : Inv G w) (hf : FRel G w a st) (hs : a.tmps.size = n) {r : Option Nat}
  {next : Act → World → Prop} {Q : Exit → Act → World → Prop} (hn : ∀ a' w' G' st',Ext G w G' w' → Inv G' w' → FRel G' w' a' st' → a'.tmps.size = n → K st' → next a' w') : o.wpIn (fen r) 0 E.P a w next Q := by
 unfold vcZ at h
 split at h
 ·exact vcSliceE_sound hE h hd hi hf hs hn
 ·exact vcOp_sound hE h hd hi hf hs hn
theorem vcZF_sound (hE : EnvOk E) {o : Oper} {K : St → Prop} (h : vcZF E o K st) (hd : dstOk n o = true) (hi : Inv G w) (hf : FRel G w a st) (hs : a.tmps.size = n) {r : Option Nat}
  {next : Act → World → Prop} {Q : Exit → Act → World → Prop} (hn : ∀ a' w' G' st',Ext G w G' w' → Inv G' w' → FRel G' w' a' st' → a'.tmps.size = n → K st' → next a' w') : o.wpIn (fen r) 0 E.P a w next Q := by
 unfold vcZF at h
 split at h
 ·exact vcCopyF_sound hE h hd hi hf hs hn
 ·exact vcZ_sound hE h hd hi hf hs hn
end
end Go.Proofs.YtdmejgfcaacdoaaGreat.Abs
