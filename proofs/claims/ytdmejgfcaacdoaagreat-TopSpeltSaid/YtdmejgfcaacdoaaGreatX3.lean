/- Lemmas for the statements of this seat (X3): they hold without conditions beyond those that each one states. -/
import Derived.Test.YtdmejgfcaacdoaaGreatX2
/- The abstract machine,part 9: slices written out,made,cut,appended to; variables written. -/
namespace Go.Proofs.YtdmejgfcaacdoaaGreat.Abs
set_option linter.unusedSimpArgs false
open Go Go.RowKit
def RowRep (com : Nat → Nat) (w : World) (sz : Nat) (l : List AV) (cs : List Value) : Prop :=
 cs.length = l.length * sz ∧ (∀ e ∈ l,e.cells.length = sz) ∧
 ∀ (k : Nat) (e : AV) (j : Nat) (x : AV) (v : Value),l[k]? = some e → e.cells[j]? = some x → cs[k * sz + j]? = some v → Rep com w x v
section
variable {com : Nat → Nat} {w : World} {E : Env}
theorem RowRep.nil (sz : Nat) : RowRep com w sz [] [] := ⟨by simp,by simp,fun k e j x v h => by simp at h⟩
theorem RowRep.cons {sz : Nat} {e : AV} {l : List AV} {vs cs : List Value} (he : Reps com w e.cells vs) (hs : e.cells.length = sz) (h : RowRep com w sz l cs) : RowRep com w sz (e :: l) (vs ++ cs) := by
 obtain ⟨h1,h2,h3⟩ := h
 have hv : vs.length = sz := by rw [← he.1,hs]
 refine ⟨by simp [h1,hv,Nat.add_mul,Nat.add_comm],fun e' h' => ?_,fun k e' j x v hk hj hc => ?_⟩
 ·rcases List.mem_cons.1 h' with rfl | h'
  ·exact hs
  ·exact h2 e' h'
 ·cases k with
  | zero =>
   simp at hk; subst hk
   have hjl : j < vs.length := by rw [hv,← hs]; exact (List.getElem?_eq_some_iff.1 hj).1
   rw [Nat.zero_mul,Nat.zero_add,List.getElem?_append_left hjl] at hc
   exact he.2 j x v hj hc
  | succ k =>
   simp at hk
   rw [List.getElem?_append_right (by rw [hv,Nat.add_mul]; omega)] at hc
   refine h3 k e' j x v hk hj ?_
   rw [← hc,hv]; congr 1; rw [Nat.add_mul]; omega
theorem RowRep.append {sz : Nat} {l l' : List AV} {cs cs' : List Value} (h : RowRep com w sz l cs) (h' : RowRep com w sz l' cs') : RowRep com w sz (l ++ l') (cs ++ cs') := by
 obtain ⟨h1,h2,h3⟩ := h
 obtain ⟨k1,k2,k3⟩ := h'
 refine ⟨by simp [h1,k1,Nat.add_mul],fun e he => ?_,fun k e j x v hk hj hc => ?_⟩
 ·rcases List.mem_append.1 he with he | he
  ·exact h2 e he
  ·exact k2 e he
 ·have hjs : j < sz := by
   have := (List.getElem?_eq_some_iff.1 hj).1
   have hm := List.mem_of_getElem? hk
   rcases List.mem_append.1 hm with he | he
   ·rw [h2 e he] at this; exact this
   ·rw [k2 e he] at this; exact this
  by_cases hkl : k < l.length
  ·rw [List.getElem?_append_left hkl] at hk
   have : (k + 1) * sz ≤ l.length * sz := Nat.mul_le_mul_right _ hkl
   rw [Nat.add_mul,Nat.one_mul] at this
   rw [List.getElem?_append_left (by rw [h1]; omega)] at hc
   exact h3 k e j x v hk hj hc
  ·rw [List.getElem?_append_right (by omega)] at hk
   have : l.length * sz ≤ k * sz := Nat.mul_le_mul_right _ (by omega)
   rw [List.getElem?_append_right (by rw [h1]; omega)] at hc
   refine k3 (k - l.length) e j x v hk hj ?_
   rw [← hc,h1]; congr 1
   rw [Nat.sub_mul]; omega
theorem RowRep.mono {com' : Nat → Nat} {w' : World} (hm : ∀ x v,Rep com w x v → Rep com' w' x v) {sz : Nat} {l : List AV} {cs : List Value} (h : RowRep com w sz l cs) : RowRep com' w' sz l cs :=
 ⟨h.1,h.2.1,fun k e j x v hk hj hc => hm x v (h.2.2 k e j x v hk hj hc)⟩
theorem RowRep.slice {sz : Nat} {l : List AV} {cs : List Value} (h : RowRep com w sz l cs) (hf : ∀ e ∈ l,e.cells.all flat = true) {b off cap : Nat} (hc : l.length ≤ cap) (hm : cap ≤ maxLen)
  (hb : off + l.length * sz ≤ com b) (hw : ∀ i,i < l.length * sz → w.cell? ⟨b,off + i,none⟩ = cs[i]?) : Rep com w (.slice sz l) (.slice (some ⟨b,off,none⟩) l.length cap) := by
 obtain ⟨h1,h2,h3⟩ := h
 refine .slice sz l b off cap (fun i => cs.getD i undef) (fun e he => ⟨h2 e he,hf e he⟩) hc hm hb (fun i hi => ?_) (fun k e j x hk hj => ?_)
 ·rw [hw i hi]
  have : i < cs.length := by rw [h1]; exact hi
  simp [this]
 ·have hjs : j < sz := by rw [← h2 e (List.mem_of_getElem? hk)]; exact (List.getElem?_eq_some_iff.1 hj).1
  have hkl := (List.getElem?_eq_some_iff.1 hk).1
  have : (k + 1) * sz ≤ l.length * sz := Nat.mul_le_mul_right _ hkl
  rw [Nat.add_mul,Nat.one_mul] at this
  have hi : k * sz + j < cs.length := by rw [h1]; omega
  exact h3 k e j x _ hk hj (by simp [hi])
theorem slice_row {sz : Nat} {l : List AV} {v : Value} (h : Rep com w (.slice sz l) v) : ∃ cs : List Value,RowRep com w sz l cs ∧ (∀ e ∈ l,e.cells.all flat = true) ∧
  (∀ (P : Program) (w' : World),(∀ a,w'.cell? a = w.cell? a) → (Builtin.firstCells sz l.length v).run P w' = .ok cs.toArray w') ∧
  (∀ (P : Program) (w' : World),(Builtin.lenOf v).run P w' = .ok l.length w') ∧ l.length ≤ maxLen := by
 rcases rep_slice h with ⟨rfl,rfl | ⟨a,cap,rfl,hm⟩⟩ | ⟨b,off,cap,vs,rfl,h1,h2,h3,h4,h5,h6⟩
 ·exact ⟨[],RowRep.nil sz,by simp,fun P w' _ => by simp [Builtin.firstCells],fun P w' => by simp [Builtin.lenOf],by simp⟩
 ·refine ⟨[],RowRep.nil sz,by simp,fun P w' _ => ?_,fun P w' => by simp [Builtin.lenOf],by simp⟩
  simp only [Builtin.firstCells,List.length_nil,Nat.zero_mul]
  rfl
 ·refine ⟨(List.range (l.length * sz)).map vs,⟨by simp,fun e he => (h1 e he).1,fun k e j x v hk hj hc => ?_⟩,fun e he => (h1 e he).2,fun P w' hw => ?_,fun P w' => by simp [Builtin.lenOf],by omega⟩
  ·have hi := (List.getElem?_eq_some_iff.1 hc).1
   simp at hi
   simp [hi] at hc
   rw [← hc]; exact h6 k e j x hk hj
  ·simp only [Builtin.firstCells]
   exact loadCells_run _ (fun j hj => by rw [hw]; exact h5 j hj)
theorem row_plain {sz : Nat} {l : List AV} {cs : List Value} (h : RowRep com w sz l cs) (hf : ∀ e ∈ l,e.cells.all flat = true) : ∀ v ∈ cs,plainV v = true := by
 intro v hv
 obtain ⟨h1,h2,h3⟩ := h
 obtain ⟨i,hi,rfl⟩ := List.mem_iff_getElem.1 hv
 have hsz : 0 < sz := by
  rcases Nat.eq_zero_or_pos sz with h0 | h0
  ·rw [h1,h0] at hi; simp at hi
  ·exact h0
 have hk : i / sz < l.length := by rw [Nat.div_lt_iff_lt_mul hsz,← h1]; exact hi
 have he : l[i / sz]? = some l[i / sz] := List.getElem?_eq_getElem hk
 have hj : i % sz < l[i / sz].cells.length := by rw [h2 _ (List.getElem_mem hk)]; exact Nat.mod_lt _ hsz
 have hx : l[i / sz].cells[i % sz]? = some l[i / sz].cells[i % sz] := List.getElem?_eq_getElem hj
 have hfx : flat l[i / sz].cells[i % sz] = true := List.all_eq_true.1 (hf _ (List.getElem_mem hk)) _ (List.getElem_mem hj)
 have hr := h3 (i / sz) _ (i % sz) _ cs[i] he hx (by rw [Nat.mul_comm,Nat.div_add_mod]; simp)
 have hp := flat_plain hr hfx
 cases hc : cs[i] with
 | agg a => exact absurd hc (hp a).1
 | tuple a => exact absurd hc (hp a).2
 | _ => rfl
/-! ### A slice that is written out -/
theorem zrow (z : Array Value) : ∀ n,((Array.range (n * z.size)).map fun k => z[k % z.size]!).toList = (List.replicate n z.toList).flatten := by
 intro n
 apply List.ext_getElem?
 intro i
 have hflat : ∀ (m i : Nat),i < m * z.size → (List.replicate m z.toList).flatten[i]? = z[i % z.size]? := by
  intro m
  induction m with
  | zero => intro i h; simp at h
  | succ m ih =>
   intro i h
   rw [List.replicate_succ,List.flatten_cons]
   by_cases hi : i < z.size
   ·rw [List.getElem?_append_left (by simpa using hi),Nat.mod_eq_of_lt hi]; simp
   ·rw [List.getElem?_append_right (by simp; omega),Array.length_toList,ih _ (by rw [Nat.add_mul] at h; omega)]
    rw [← Nat.mod_eq_sub_mod (by omega)]
 by_cases hi : i < n * z.size
 ·have hz : 0 < z.size := by
   rcases Nat.eq_zero_or_pos z.size with h0 | h0
   ·rw [h0] at hi; simp at hi
   ·exact h0
  rw [hflat n i hi]
  simp [hi,Nat.mod_lt _ hz]
 ·rw [List.getElem?_eq_none (by simp; omega),List.getElem?_eq_none (by simp; omega)]
theorem RowRep.replicate {sz : Nat} {e : AV} {vs : List Value} (he : Reps com w e.cells vs) (hs : e.cells.length = sz) : ∀ n,RowRep com w sz (List.replicate n e) (List.replicate n vs).flatten
 | 0 => RowRep.nil sz
 | n + 1 => by
  rw [List.replicate_succ,List.replicate_succ,List.flatten_cons]
  exact RowRep.cons he hs (RowRep.replicate he hs n)
theorem RowRep.set {sz : Nat} {l : List AV} {cs : List Value} (h : RowRep com w sz l cs) {i : Nat} (hi : i < l.length) {x : AV} {vs : List Value} (hx : Reps com w x.cells vs) (hs : x.cells.length = sz) :
  RowRep com w sz (l.set i x) (writeAt cs (i * sz) vs) := by
 obtain ⟨h1,h2,h3⟩ := h
 have hv : vs.length = sz := by rw [← hx.1,hs]
 have hm : (i + 1) * sz ≤ l.length * sz := Nat.mul_le_mul_right _ hi
 rw [Nat.add_mul,Nat.one_mul] at hm
 have hb : i * sz + vs.length ≤ cs.length := by rw [h1,hv]; exact hm
 refine ⟨by rw [writeAt_length _ _ _ hb,h1]; simp,fun e he => ?_,fun k e j y v hk hj hc => ?_⟩
 ·rcases List.mem_or_eq_of_mem_set he with he | he
  ·exact h2 e he
  ·rw [he]; exact hs
 ·rw [writeAt_get _ _ _ hb,hv] at hc
  have hjs : j < sz := by
   have hj' := (List.getElem?_eq_some_iff.1 hj).1
   rcases List.mem_or_eq_of_mem_set (List.mem_of_getElem? hk) with he | he
   ·rw [h2 e he] at hj'; exact hj'
   ·rw [he,hs] at hj'; exact hj'
  by_cases hki : k = i
  ·subst hki
   rw [List.getElem?_set_self hi] at hk
   simp only [Option.some.injEq] at hk
   subst hk
   rw [if_pos ⟨by omega,by omega⟩] at hc
   exact hx.2 j y v hj (by rw [← hc]; congr 1; omega)
  ·rw [List.getElem?_set_ne (fun e => hki e.symm)] at hk
   rw [if_neg] at hc
   ·exact h3 k e j y v hk hj hc
   ·rintro ⟨g1,g2⟩
    rcases Nat.lt_or_gt_of_ne hki with g | g
    ·have : (k + 1) * sz ≤ i * sz := Nat.mul_le_mul_right _ g
     rw [Nat.add_mul,Nat.one_mul] at this; omega
    ·have : (i + 1) * sz ≤ k * sz := Nat.mul_le_mul_right _ g
     rw [Nat.add_mul,Nat.one_mul] at this; omega
theorem sliceFrom_sound {sz : Nat} : ∀ (parts : List (Nat × SV)) (vals : List (Nat × Value)) (elems : List AV) (cs : Array Value) (l : List AV),
  parts.length = vals.length → (∀ (k i : Nat) (x : SV) (i' : Nat) (v : Value),parts[k]? = some (i,x) → vals[k]? = some (i',v) → i = i' ∧ ∀ y,x = .v y → Rep com w y v) →
  RowRep com w sz elems cs.toList → sliceFrom elems sz parts = some l → (∀ e ∈ elems,e.cells.all flat = true) →
  ∃ cs' : Array Value,Instr.fill (fun i => some (i * sz,sz)) cs vals = some cs' ∧ RowRep com w sz l cs'.toList ∧ (∀ e ∈ l,e.cells.all flat = true) ∧ l.length = elems.length
 | [],vals,elems,cs,l,hlen,_,hr,h,hfl => by
  cases vals with
  | cons => simp at hlen
  | nil =>
   simp only [sliceFrom,Option.some.injEq] at h
   subst h
   exact ⟨cs,rfl,hr,hfl,rfl⟩
 | (i,x) :: parts,vals,elems,cs,l,hlen,hp,hr,h,hfl => by
  cases vals with
  | nil => simp at hlen
  | cons iv vals =>
   obtain ⟨i',v⟩ := iv
   obtain ⟨e,hx⟩ := hp 0 i x i' v rfl rfl
   subst e
   simp only [sliceFrom] at h
   split at h
   ·rename_i y
    split at h
    ·rename_i hc
     obtain ⟨h1,h1',h2,h3⟩ := hc
     have hy := rep_cells (hx y rfl) h1
     have hvs : v.cells.size = sz := by rw [← h2,hy.1]; simp
     have hm : (i + 1) * sz ≤ elems.length * sz := Nat.mul_le_mul_right _ h3
     rw [Nat.add_mul,Nat.one_mul] at hm
     have hlc : cs.size = elems.length * sz := by simpa using hr.1
     have hfold := foldl_writeAt v.cells.toList 0 cs (i * sz) (by simp [hvs]; omega)
     obtain ⟨cs',h4,h5,h6,h7⟩ := sliceFrom_sound parts vals (elems.set i y) (writeAt cs.toList (i * sz) v.cells.toList).toArray l (by simpa using hlen)
      (fun k i x i' v hk hv => hp (k + 1) i x i' v (by simpa using hk) (by simpa using hv)) (by simpa using hr.set h3 hy h2) h
      (fun e he => by
       rcases List.mem_or_eq_of_mem_set he with he | he
       ·exact hfl e he
       ·rw [he]; exact h1')
     refine ⟨cs',?_,h5,h6,by rw [h7]; simp⟩
     simp only [Instr.fill]
     rw [if_neg (by simp [hvs]; omega)]
     have : (v.cells.zipIdx.foldl (fun cs (x : Value × Nat) => cs.setIfInBounds (i * sz + x.2) x.1) cs) = (writeAt cs.toList (i * sz) v.cells.toList).toArray := by
      rw [← Array.foldl_toList,Array.toList_zipIdx]; simpa using hfold
     rw [this]; exact h4
    ·simp at h
   ·simp at h
theorem vcBuildSlice_sound (hE : EnvOk E) {t : TypeId} {len : Nat} {parts : List (Nat × SV)} {K : AV → Prop} (h : vcBuildSlice E t len parts K) {vals : Array (Nat × Value)} (hlen : parts.length = vals.toList.length)
  (hp : ∀ (k i : Nat) (x : SV) (i' : Nat) (v : Value),parts[k]? = some (i,x) → vals.toList[k]? = some (i',v) → i = i' ∧ ∀ y,x = .v y → Rep com w y v) :
  ∃ (sz : Nat) (l : List AV) (cs : List Value) (e : TypeId),K (.slice sz l) ∧ RowRep com w sz l cs ∧ (∀ e ∈ l,e.cells.all flat = true) ∧ l.length = len ∧ len ≤ maxLen ∧
   (Instr.buildSlice t len vals).run E.P w = .ok (.slice (some ⟨w.heap.size,0,none⟩) len len) (w.alloc (.cells cs.toArray e (0,0))) := by
 unfold vcBuildSlice at h
 split at h
 ·rename_i e sz by' z hT
  obtain ⟨d,hd,hu,hr⟩ := run_und hE hT
  cases d <;> simp only [descOk] at hd
  subst hd
  split at h
  ·rename_i i hi
   obtain ⟨⟨h1,h1'⟩,h⟩ := h
   have ok := hE e i hi
   obtain ⟨zv,hz,hzr⟩ := ok.zero
   have hzc : Reps com w (zeroOf i).cells zv.cells.toList := rep_cells (hzr com w) ok.zc.2.1
   have hzs : (zeroOf i).cells.length = i.size := by rw [ok.zc.1,ok.zc.2.2.1]
   have hvz : zv.cells.size = i.size := by rw [← hzs,hzc.1]; simp
   cases hb : sliceFrom (List.replicate len (zeroOf i)) i.size parts with
   | none => rw [hb] at h; exact h.elim
   | some l =>
    rw [hb] at h
    have hrow := RowRep.replicate hzc hzs len
    have hzf : (zeroOf i).cells.all flat = true := by rw [ok.zc.1]; exact ok.zc.2.2.2
    obtain ⟨cs',hf,hr',hfl,hll⟩ := sliceFrom_sound parts vals.toList (List.replicate len (zeroOf i)) ((Array.range (len * i.size)).map fun k => zv.cells[k % zv.cells.size]!) l hlen hp
     (by rw [← hvz,zrow]; rw [← hvz] at hrow; exact hrow) hb (fun e he => by rw [List.eq_of_mem_replicate he]; exact hzf)
    have hll' : l.length = len := by rw [hll]; simp
    refine ⟨i.size,l,cs'.toList,e,h,hr',hfl,hll',?_,?_⟩
    ·have : len ≤ len * i.size := Nat.le_mul_of_pos_right _ (by omega)
     unfold maxLen; omega
    ·have hno : ¬ (2 ^ 24 < len * i.size) := by omega
     have hs := ok.size w
     by_cases h0 : len * i.size = 0
     ·have hcs : ((Array.range (len * i.size)).map fun k => zv.cells[k % zv.cells.size]!) = (Array.range (len * i.size)).map fun k => (#[] : Array Value)[k % (#[] : Array Value).size]! := by
       rw [h0]; simp
      rw [hcs] at hf
      simp only [Instr.buildSlice,Sem.run_bind,hr,Result.andThen_ok,hs]
      rw [if_neg hno,if_pos h0]
      simp only [Sem.run_bind,Sem.run_pure,Result.andThen_ok]
      rw [hf]
      simp [newRow]
     ·simp only [Instr.buildSlice,Sem.run_bind,hr,Result.andThen_ok,hs]
      rw [if_neg hno,if_neg h0]
      simp only [Sem.run_bind,hz,Sem.run_pure,Result.andThen_ok]
      rw [hf]
      simp [newRow]
  ·exact h.elim
 ·exact h.elim
end
end Go.Proofs.YtdmejgfcaacdoaaGreat.Abs
/- The abstract machine,part 10: append,make,slice expressions,stores. -/
namespace Go.Proofs.YtdmejgfcaacdoaaGreat.Abs
set_option linter.unusedSimpArgs false
open Go Go.RowKit
section
variable {P : Program}
theorem run_append_room2 (w : World) (t ty e : TypeId) (i : TypeInfo) (ht : P.underlying t = some (.slice e)) (hi : P.info? e = some i) (b sLen sCap n : Nat) (x : Value) (news : List Value)
  (hlen : ∀ w',(Builtin.lenOf x).run P w' = .ok n w') (hf : (Builtin.firstCells i.size n x).run P w = .ok news.toArray w) (hroom : sLen + n ≤ sCap)
  {cs : List Value} {e' : TypeId} (hg : w.heap[b]? = some (.cells cs.toArray e' (0,0))) (hfit : sLen * i.size + news.length ≤ cs.length) (hp : ∀ v ∈ news,plainV v = true) :
  (Builtin.append_ #[t,t] ty #[.slice (some ⟨b,0,none⟩) sLen sCap,x]).run P w =
   .ok (.slice (some ⟨b,0,none⟩) (sLen + n) sCap) (w.setBlock' b (.cells (writeAt cs (sLen * i.size) news).toArray e' (0,0))) := by
 have hst := storeCells_run (P := P) (b := b) (off := sLen * i.size) (e := e') news 0 w cs hg (by omega) hp
 simp only [Nat.add_zero] at hst
 simp [Builtin.append_,run_underlying ht,sizeOf,typeInfo,hi,hlen,hroom,hf,addr_add,hst]
theorem run_append_nil0 (w : World) (t ty e : TypeId) (i : TypeInfo) (ht : P.underlying t = some (.slice e)) (hi : P.info? e = some i) (x : Value)
  (hlen : ∀ w',(Builtin.lenOf x).run P w' = .ok 0 w') (hf : (Builtin.firstCells i.size 0 x).run P w = .ok #[] w) :
  (Builtin.append_ #[t,t] ty #[.slice none 0 0,x]).run P w = .ok (.slice none 0 0) w := by
 simp [Builtin.append_,run_underlying ht,sizeOf,typeInfo,hi,hlen,hf]
theorem run_append_grow2 (w : World) (t ty e : TypeId) (i : TypeInfo) (z : Value) (ht : P.underlying t = some (.slice e)) (hi : P.info? e = some i) (hz : i.zero = some z) (base : Option Addr) (sLen sCap n : Nat) (x : Value) (olds news : List Value)
  (hfo : (Builtin.firstCells i.size sLen (.slice base sLen sCap)).run P w.drew = .ok olds.toArray w.drew)
  (hlen : ∀ w',(Builtin.lenOf x).run P w' = .ok n w') (hf : (Builtin.firstCells i.size n x).run P w.drew = .ok news.toArray w.drew) (hg : sCap < sLen + n)
  (h63 : sLen + n ≤ maxLen) (hfit : (sLen + n) * i.bytes ≤ 140737488355328) :
  (Builtin.append_ #[t,t] ty #[.slice base sLen sCap,x]).run P w =
   .ok (.slice (some ⟨w.heap.size,0,none⟩) (sLen + n) (grownCap w (sLen + n) sCap e))
    (w.drew.alloc (.cells (olds ++ news ++ (Builtin.zeroCells z.cells (grownCap w (sLen + n) sCap e - (sLen + n))).toList).toArray e)) := by
 have hn : ¬ (sLen + n ≤ sCap) := by omega
 have h63' : ¬ (9223372036854775807 < ((sLen : Int) + (n : Int))) := by unfold maxLen at h63; omega
 have h48 := growslice_fits (bytes := i.bytes) hg hfit
 have h48' : ¬ (281474976710656 < Builtin.nextslicecap (sLen + n) sCap * i.bytes) := by omega
 simp [Builtin.append_,run_underlying ht,sizeOf,typeInfo,zeroValue,hi,hz,hlen,hn,h63',h48',Question.forced,hf,hfo,newRow,grownCap]
 congr 2
 apply Array.ext'
 simp
end
section
variable {E : Env} {G : Gh} {w : World} {β : Nat → Nat} {R : Nat → Role} {a : Act} {st : St}
theorem FRelB.forget (h : FRelB G w β R a st) {s : Nat} (hs : st.own s = false) : FRelB G w β (fun b => match R b with | .own s' => if s' = s then .free else .own s' | r => r) a st := by
 refine ⟨h.defers,h.vals,fun s' hs' => ?_,fun i l hl => ?_,h.ref,h.mem,fun b x hb => ?_,fun b hb => ?_⟩
 ·obtain ⟨sz,l,e,hv⟩ := h.own s' hs'
  refine ⟨sz,l,e,hv.imp id ?_⟩
  rintro ⟨b,len,cap,cs,el,h1,h2,h3,h4,h5,h6,h7,h8⟩
  refine ⟨b,len,cap,cs,el,h1,h2,h3,h4,h5,h6,h7,?_⟩
  have : s' ≠ s := by rintro rfl; rw [hs] at hs'; cases hs'
  simp [h8,this]
 ·obtain ⟨h1,h2⟩ := h.loc i l hl
  exact ⟨h1,by simp [h2]⟩
 ·have := h.rmem b x hb; simp [this]
 ·refine h.rlt b ?_
  intro e; rw [e] at hb; exact hb rfl
theorem FRelB.putRow (h : FRelB G w β R a st) (hi : Inv G w) {d : Tmp} (hd : d < a.tmps.size) {sz : Nat} {l : List AV} {cs : List Value} (e : TypeId) {cap : Nat}
  (hr : RowRep G.com w sz l (cs.take (l.length * sz))) (hf : ∀ x ∈ l,x.cells.all flat = true) (hc : l.length ≤ cap) (hm : cap ≤ maxLen) (hs : cap * sz ≤ cs.length) :
  Ext G w (G.setCom w.heap.size (l.length * sz)) (w.alloc (.cells cs.toArray e (0,0))) ∧ Inv (G.setCom w.heap.size (l.length * sz)) (w.alloc (.cells cs.toArray e (0,0))) ∧
   FRel (G.setCom w.heap.size (l.length * sz)) (w.alloc (.cells cs.toArray e (0,0))) (a.put (some d) (.slice (some ⟨w.heap.size,0,none⟩) l.length cap)) (st.put (some d) (.v (.slice sz l)) true) := by
 have hle : l.length * sz ≤ cap * sz := Nat.mul_le_mul_right _ hc
 have hcc : (l.length * sz ≠ 0) → ∃ cs' e' fz,(Obj.cells cs.toArray e (0,0)) = .cells cs' e' fz ∧ l.length * sz ≤ cs'.size := fun _ => ⟨_,_,_,rfl,by simp; omega⟩
 obtain ⟨hx,hi'⟩ := alloc_grow hi (.cells cs.toArray e (0,0)) (l.length * sz) hcc
 have hfr := h.alloc hi (.cells cs.toArray e (0,0)) (l.length * sz) hcc
 have hb := heap_alloc_new w (.cells cs.toArray e (0,0))
 have hrep : Rep (G.setCom w.heap.size (l.length * sz)).com (w.alloc (.cells cs.toArray e (0,0))) (.slice sz l) (.slice (some ⟨w.heap.size,0,none⟩) l.length cap) := by
  refine (hr.mono fun x v h => h.ext hx).slice hf hc hm (by simp [Gh.setCom,upd_same]) (fun i hi => ?_)
  rw [cell_block hb,List.getElem?_take,if_pos hi,Nat.zero_add]
 refine ⟨hx,hi',β,upd R w.heap.size (.own d),hfr.putOwn (x := .v (.slice sz l)) hd hrep (fun i hi => hi.elim) ?_ (fun b hb => ?_) (fun b hb => ?_)⟩
 ·refine ⟨sz,l,rfl,.inr ⟨w.heap.size,l.length,cap,cs.toArray,e,rfl,hi.below.size,?_,hb,rfl,by simpa using hs,by simp [Gh.setCom,upd_same],upd_same _ _ _⟩⟩
  intro hlk
  exact absurd (hi.lock _ hlk) (Nat.lt_irrefl _)
 ·refine upd_ne _ _ ?_
  rintro rfl
  have hnf : R w.heap.size ≠ .free := by
   rcases hb with ⟨s,_,_,hb⟩ | ⟨i,hb⟩ | hb <;> rw [hb] <;> simp
  exact absurd (h.rlt _ hnf) (Nat.lt_irrefl _)
 ·by_cases e : b = w.heap.size
  ·subst e; simp
  ·rw [upd_ne _ _ e] at hb
   have := h.rlt b hb
   simp; omega
theorem drew_frame (h : FRelB G w β R a st) (hi : Inv G w) : FRelB G w.drew β R a st := h.ext (drew_grow hi).1 (fun _ _ => ⟨rfl,rfl⟩)
theorem append_sound (hE : EnvOk E) (hi : Inv G w) (hf : FRelB G w β R a st) {d : Tmp} (hd : d < a.tmps.size) {t t2 : TypeId} {s x : SV} {own : Bool} {K : AV → Prop} (h : vcAppend E t t2 s x own K)
  {v u : Value} (hs : SRep G.com w β s v) (hx : SRep G.com w β x u) (ty : TypeId)
  (ho : own = true → (v = .slice none 0 0 ∨ ∃ s0,st.own s0 = true ∧ v = a.tmps.getD s0 undef ∧ s = st.vals s0)) :
  ∃ r z w' G',K r ∧ (Builtin.append_ #[t,t2] ty #[v,u]).run E.P w = .ok z w' ∧ Ext G w G' w' ∧ Inv G' w' ∧
   ∀ s0,(v = .slice none 0 0 ∨ (st.own s0 = true ∧ v = a.tmps.getD s0 undef ∧ s = st.vals s0)) →
    FRel G' w' (a.put (some d) z) (({ st with own := upd st.own s0 false } : St).put (some d) (.v r) true) := by
 unfold vcAppend at h
 split at h
 ·rename_i e sz0 by0 z0 sz l sz2 l2 hT
  obtain ⟨dd,hdd,hu,hr⟩ := run_und hE hT
  cases dd <;> simp only [descOk] at hdd
  subst hdd
  split at h
  ·rename_i i hTe
   obtain ⟨⟨rfl,rfl,rfl,rfl,hsz,hby,hbd⟩,hk⟩ := h
   have ok := hE _ _ hTe
   obtain ⟨fi,zv,d',g1,g2,g3,g4,g5,g6,g7,g8⟩ := ok.ex
   obtain ⟨news,hn1,hn2,hn3,hn4,hn5⟩ := slice_row (srep_v hx)
   obtain ⟨olds,ho1,ho2,ho3,ho4,ho5⟩ := slice_row (srep_v hs)
   have hrow := ho1.append hn1
   have hflat : ∀ x ∈ l ++ l2,x.cells.all flat = true := fun x hx => (List.mem_append.1 hx).elim (ho2 x) (hn2 x)
   have hlen : (l ++ l2).length = l.length + l2.length := by simp
   have hml : l.length + l2.length ≤ maxLen := by
    have : l.length + l2.length ≤ (l.length + l2.length) * i.bytes := Nat.le_mul_of_pos_right _ (by omega)
    unfold maxLen; omega
   -- a new row
   have grow : ∀ (base : Option Addr) (cap : Nat),v = .slice base l.length cap → cap < l.length + l2.length → ∃ z w' G',(Builtin.append_ #[t2,t2] ty #[v,u]).run E.P w = .ok z w' ∧ Ext G w G' w' ∧ Inv G' w' ∧
     ∀ s0,FRel G' w' (a.put (some d) z) (({ st with own := upd st.own s0 false } : St).put (some d) (.v (.slice i.size (l ++ l2))) true) := by
    intro base cap hv hg
    subst hv
    have hrun := run_append_grow2 (P := E.P) w t2 ty e fi zv hu g1 g4 base l.length cap l2.length u olds news (by rw [g2]; exact ho3 E.P w.drew (fun _ => rfl)) (fun w' => hn4 E.P w') (by rw [g2]; exact hn3 E.P w.drew (fun _ => rfl)) hg hml (by rw [g3]; exact hbd)
    have hge := grownCap_ge w (l.length + l2.length) cap e
    have hcm := grownCap_le_maxLen w (l.length + l2.length) cap e hml
    have hzl : zv.cells.size = i.size := by
     have := rep_cells (g7 G.com w) ok.zc.2.1
     have h1 := this.1
     rw [ok.zc.1,ok.zc.2.2.1] at h1
     simpa using h1.symm
    have hcl : ((olds ++ news ++ (Builtin.zeroCells zv.cells (grownCap w (l.length + l2.length) cap e - (l.length + l2.length))).toList)).length = grownCap w (l.length + l2.length) cap e * i.size := by
     simp only [List.length_append,ho1.1,hn1.1,Array.length_toList,size_zeroCells,hzl]
     rw [← Nat.add_mul,← Nat.add_mul]; congr 1; omega
    have hkeep := fun s0 => (drew_frame (hf.disown s0) hi).putRow (drew_grow hi).2 hd (sz := i.size) (l := l ++ l2) (cs := olds ++ news ++ (Builtin.zeroCells zv.cells (grownCap w (l.length + l2.length) cap e - (l.length + l2.length))).toList) e
     (cap := grownCap w (l.length + l2.length) cap e) (by
      have ht : (olds ++ news ++ (Builtin.zeroCells zv.cells (grownCap w (l.length + l2.length) cap e - (l.length + l2.length))).toList).take ((l ++ l2).length * i.size) = olds ++ news := by
       rw [← hrow.1]; exact List.take_left
      rw [ht]; exact hrow.mono fun x v h => h.ext (drew_grow hi).1) hflat (by rw [hlen]; exact hge) hcm (by rw [hcl]; exact Nat.le_refl _)
    rw [hlen] at hkeep
    exact ⟨_,_,_,hrun,(drew_grow hi).1.trans (hkeep 0).1,(hkeep 0).2.1,fun s0 => (hkeep s0).2.2⟩
   have hcases : (l = [] ∧ v = .slice none 0 0) ∨ (∃ a cap,v = .slice a l.length cap ∧ cap < l.length + l2.length) ∨
     ∃ b off cap,∃ vs : Nat → Value,v = .slice (some ⟨b,off,none⟩) l.length cap ∧ (∀ e ∈ l,e.cells.length = i.size ∧ e.cells.all flat = true) ∧ l.length ≤ cap ∧ cap ≤ maxLen ∧ off + l.length * i.size ≤ G.com b ∧
      (∀ k,k < l.length * i.size → w.cell? ⟨b,off + k,none⟩ = some (vs k)) ∧
      ∀ (k : Nat) (e : AV) (j : Nat) (x : AV),l[k]? = some e → e.cells[j]? = some x → Rep G.com w x (vs (k * i.size + j)) := by
    rcases rep_slice (srep_v hs) with ⟨rfl,rfl | ⟨a0,cap0,rfl,hm0⟩⟩ | hr
    ·exact .inl ⟨rfl,rfl⟩
    ·by_cases hroom : l2.length ≤ cap0
     ·obtain ⟨s1,hs1,hv1,hsv1⟩ := (ho rfl).resolve_left (by simp)
      obtain ⟨sz',l',e1,hown⟩ := hf.own s1 hs1
      rw [← hv1] at hown
      obtain ⟨b',len',cap',cs,el,p1,p2,p3,p4,p5,p6,p7,p8⟩ := hown.resolve_left (by simp)
      cases p1
      exact .inr (.inr ⟨b',0,cap0,fun _ => undef,rfl,by simp,by simp,hm0,by simp,fun k hk => by simp at hk,fun k e j x hk => by simp at hk⟩)
     ·exact .inr (.inl ⟨_,cap0,rfl,by simp; omega⟩)
    ·exact .inr (.inr hr)
   rcases hcases with ⟨rfl,rfl⟩ | ⟨a0,cap0,rfl,hg0⟩ | ⟨b,off,cap,vs,rfl,q1,q2,q3,q4,q5,q6⟩
   ·by_cases h0 : l2.length = 0
    ·have : l2 = [] := List.eq_nil_of_length_eq_zero h0
     subst this
     have hrun := run_append_nil0 (P := E.P) w t2 ty e fi hu g1 u (fun w' => hn4 E.P w') (by
      have := hn3 E.P w (fun _ => rfl)
      rw [g2]
      have hnn : news = [] := by have := hn1.1; simpa using this
      rw [hnn] at this; exact this)
     refine ⟨_,_,w,G,hk,hrun,Ext.refl _ _,hi,fun s0 _ => ⟨β,R,(hf.disown s0).putOwn (x := .v (.slice i.size ([] ++ []))) hd (v := .slice none 0 0) (by unfold SRep; exact Rep.nilslice _) (fun i hi => hi.elim) ⟨_,_,rfl,.inl rfl⟩ (fun b _ => rfl) hf.rlt⟩⟩
    ·obtain ⟨z,w',G',r1,r2,r3,r4⟩ := grow none 0 rfl (by simp; omega)
     exact ⟨_,z,w',G',hk,r1,r2,r3,fun s0 _ => r4 s0⟩
   ·obtain ⟨z,w',G',r1,r2,r3,r4⟩ := grow a0 cap0 rfl hg0
    exact ⟨_,z,w',G',hk,r1,r2,r3,fun s0 _ => r4 s0⟩
   ·by_cases hroom : l.length + l2.length ≤ cap
    ·-- in place
     obtain ⟨s1,hs1,hv1,hsv1⟩ := (ho rfl).resolve_left (by simp)
     obtain ⟨sz',l',e1,hown⟩ := hf.own s1 hs1
     rw [← hv1] at hown
     rw [← hsv1] at e1
     cases e1
     obtain ⟨b',len',cap',cs,el,p1,p2,p3,p4,p5,p6,p7,p8⟩ := hown.resolve_left (by simp)
     cases p1
     have hcs : cs = cs.toList.toArray := by simp
     rw [hcs] at p4
     have hlt := hf.rlt b (by rw [p8]; simp)
     have hmul : (l.length + l2.length) * i.size ≤ cap * i.size := Nat.mul_le_mul_right _ hroom
     have hfit : l.length * i.size + news.length ≤ cs.toList.length := by rw [hn1.1,← Nat.add_mul]; simp; omega
     have hrun := run_append_room2 (P := E.P) w t2 ty e fi hu g1 b l.length cap l2.length u news (fun w' => hn4 E.P w') (by rw [g2]; exact hn3 E.P w (fun _ => rfl)) hroom p4 (by rw [g2]; exact hfit) (row_plain hn1 hn2)
     rw [g2] at hrun
     have hwl : (writeAt cs.toList (l.length * i.size) news).length = cs.size := by rw [writeAt_length _ _ _ hfit]; simp
     obtain ⟨hxx,hii⟩ := write_grow (c := (l.length + l2.length) * i.size) (o := .cells (writeAt cs.toList (l.length * i.size) news).toArray el (0,0)) hi p2 hlt p3 (by rw [p7,Nat.add_mul]; omega)
      (fun _ => ⟨_,_,_,rfl,by simp only [List.size_toArray,hwl]; omega⟩) (fun k hk => by
       rw [cell_block (heap_setBlock'_same w _ _ hlt),cell_block p4,writeAt_get _ _ _ hfit,if_neg (by omega)])
     have hrep : Rep (G.setCom b ((l.length + l2.length) * i.size)).com (w.setBlock' b (.cells (writeAt cs.toList (l.length * i.size) news).toArray el (0,0))) (.slice i.size (l ++ l2)) (.slice (some ⟨b,0,none⟩) (l.length + l2.length) cap) := by
      have hr2 : RowRep (G.setCom b ((l.length + l2.length) * i.size)).com (w.setBlock' b (.cells (writeAt cs.toList (l.length * i.size) news).toArray el (0,0))) i.size (l ++ l2) (olds ++ news) := hrow.mono fun x v h => h.ext hxx
      have := hr2.slice hflat (b := b) (off := 0) (cap := cap) (by rw [hlen]; exact hroom) q3 (by simp [Gh.setCom,upd_same,hlen]) (fun k hk => by
       rw [hlen,Nat.add_mul] at hk
       rw [Nat.zero_add,cell_block (heap_setBlock'_same w _ _ hlt),writeAt_get _ _ _ hfit]
       by_cases hk1 : l.length * i.size ≤ k ∧ k < l.length * i.size + news.length
       ·rw [if_pos hk1,List.getElem?_append_right (by rw [ho1.1]; exact hk1.1),ho1.1]
       ·rw [if_neg hk1]
        have hk2 : k < l.length * i.size := by rw [hn1.1] at hk1; omega
        rw [List.getElem?_append_left (by rw [ho1.1]; exact hk2)]
        have h1 := q5 k hk2
        have h3 := ho3 E.P w (fun _ => rfl)
        simp only [Builtin.firstCells] at h3
        rw [loadCells_run _ (fun j hj => q5 j hj)] at h3
        simp only [Result.ok.injEq,and_true] at h3
        have h4 : olds = (List.range (l.length * i.size)).map vs := by
         have := congrArg Array.toList h3; simpa using this.symm
        rw [h4,← cell_block p4]
        simp only [Nat.zero_add] at h1
        rw [h1]; simp [hk2])
      rw [hlen] at this; exact this
     refine ⟨_,_,_,_,hk,hrun,hxx,hii,fun s0 hs0 => ?_⟩
     obtain ⟨hs0,hv0,_⟩ := hs0.resolve_left (by simp)
     have h01 : s0 = s1 := by
      obtain ⟨_,_,_,hown0⟩ := hf.own s0 hs0
      rw [← hv0] at hown0
      obtain ⟨b',_,_,_,_,e0,_,_,_,_,_,_,e8⟩ := hown0.resolve_left (by simp)
      cases e0
      rw [p8] at e8; cases e8; rfl
     subst h01
     have hfor := (hf.disown s0).forget (s := s0) (by simp [upd_same])
     have hstep := hfor.ext hxx (fun k hk => by
      have hkb : k ≠ b := by rintro rfl; rw [p8] at hk; simp at hk
      exact ⟨heap_setBlock' w _ _ hkb,by simp [Gh.setCom,upd_ne _ _ hkb]⟩)
     refine ⟨β,upd (fun b => match R b with | .own s' => if s' = s0 then .free else .own s' | r => r) b (.own d),hstep.putOwn (x := .v (.slice i.size (l ++ l2))) hd hrep (fun i hi => hi.elim) ?_ (fun k hk => ?_) (fun k hk => ?_)⟩
     ·refine ⟨_,_,rfl,.inr ⟨b,_,cap,_,el,rfl,p2,p3,heap_setBlock'_same w _ _ hlt,hlen.symm,by simp only [List.size_toArray,hwl]; exact p6,by simp [Gh.setCom,upd_same],upd_same _ _ _⟩⟩
     ·refine upd_ne _ _ ?_
      rintro rfl
      rw [p8] at hk
      simp at hk
     ·by_cases ek : k = b
      ·subst ek; simpa [World.setBlock'] using hlt
      ·rw [upd_ne _ _ ek] at hk
       have : R k ≠ .free := by intro e; rw [e] at hk; exact hk rfl
       simpa [World.setBlock'] using hf.rlt k this
    ·obtain ⟨z,w',G',r1,r2,r3,r4⟩ := grow (some ⟨b,off,none⟩) cap rfl (by omega)
     exact ⟨_,z,w',G',hk,r1,r2,r3,fun s0 _ => r4 s0⟩
  ·exact h.elim
 ·exact h.elim
end
end Go.Proofs.YtdmejgfcaacdoaaGreat.Abs
/- The abstract machine,part 11: make,slice expressions,len,stores; and all operations together. -/
namespace Go.Proofs.YtdmejgfcaacdoaaGreat.Abs
set_option linter.unusedSimpArgs false
open Go Go.RowKit
section
variable {E : Env} {G : Gh} {w : World} {β : Nat → Nat} {R : Nat → Role} {a : Act} {st : St}
theorem Reps.flatten {com : Nat → Nat} {l : List AV} {vs : List Value} (h : Reps com w l vs) : ∀ n,Reps com w (List.replicate n l).flatten (List.replicate n vs).flatten
 | 0 => Reps.nil
 | n + 1 => by rw [List.replicate_succ,List.replicate_succ,List.flatten_cons,List.flatten_cons]; exact h.append (Reps.flatten h n)
theorem makeSlice_sound (hE : EnvOk E) {t : TypeId} {n c : SV} {K : List AV → Nat → Prop} (h : vcMakeSlice E t n c K) {vn vc : Value} (hn : SRep G.com w β n vn) (hc : SRep G.com w β c vc) :
  ∃ (l : List AV) (k : Nat) (cs : List Value) (e : TypeId),K l k ∧ Reps G.com w l cs ∧ (Instr.makeSlice t vn vc).run E.P w = .ok (.slice (some ⟨w.heap.size,0,none⟩) k k) (w.alloc (.cells cs.toArray e (0,0))) := by
 unfold vcMakeSlice at h
 split at h
 ·rename_i e sz0 by0 z0 kn n kc c hT
  obtain ⟨dd,hdd,hu,hr⟩ := run_und hE hT
  cases dd <;> simp only [descOk] at hdd
  subst hdd
  rw [rep_int (srep_v hn),rep_int (srep_v hc)]
  split at h
  ·rename_i i hTe
   obtain ⟨⟨rfl,h0,h63,hb⟩,hk⟩ := h
   have ok := hE _ _ hTe
   obtain ⟨fi,zv,d',g1,g2,g3,g4,g5,g6,g7,g8⟩ := ok.ex
   have hz := rep_cells (g7 G.com w) ok.zc.2.1
   rw [ok.zc.1] at hz
   have hzl : zv.cells.size = i.size := by rw [← ok.zc.2.2.1,hz.1]; simp
   refine ⟨_,_,(List.replicate n.toNat zv.cells.toList).flatten,e,hk,Reps.flatten hz _,?_⟩
   rw [run_make w t e fi zv hu g1 g4 kn kc n n h0 (Int.le_refl _) (by rw [g3]; omega) h63]
   have hrow' : madeCells zv.cells (n.toNat * fi.size) = (List.replicate n.toNat zv.cells.toList).flatten.toArray := by
    apply Array.ext'
    rw [g2,← hzl]
    exact zrow zv.cells n.toNat
   rw [hrow']
  ·exact h.elim
 ·exact h.elim
theorem sliceBound_run (P : Program) (k : IntKind) (n : Int) (y : Nat) (code : BoundsCode) (h0 : 0 ≤ n) (h1 : n ≤ y) (w : World) : (Instr.sliceBound (.int k n) y code).run P w = .ok n.toNat w := by
 simp [Instr.sliceBound,asIntOf,h0,h1]
theorem bounds_sound (P : Program) (isS : Bool) (len cap : Nat) {lo hi : Option SV} {p q : Int} (hlo : bound 0 lo = some p) (hhi : bound len hi = some q) (h0 : 0 ≤ p) (h1 : p ≤ q) (h2 : q ≤ cap)
  {vlo vhi : Option Value} (rl : ∀ x,lo = some x → ∃ v,vlo = some v ∧ SRep G.com w β x v) (rl' : lo = none → vlo = none) (rh : ∀ x,hi = some x → ∃ v,vhi = some v ∧ SRep G.com w β x v) (rh' : hi = none → vhi = none) :
  (Instr.sliceBounds isS len cap vlo vhi none).run P w = .ok (p.toNat,q.toNat,cap) w := by
 have hl : (vlo = none ∧ p = 0) ∨ ∃ k,vlo = some (.int k p) := by
  unfold bound at hlo
  split at hlo
  ·simp at hlo; exact .inl ⟨rl' rfl,hlo.symm⟩
  ·rename_i k n
   simp only [Option.some.injEq] at hlo
   subst hlo
   obtain ⟨v,e,hv⟩ := rl _ rfl
   rw [rep_int (srep_v hv)] at e
   exact .inr ⟨k,e⟩
  ·simp at hlo
 have hh : (vhi = none ∧ q = len) ∨ ∃ k,vhi = some (.int k q) := by
  unfold bound at hhi
  split at hhi
  ·simp at hhi; exact .inl ⟨rh' rfl,hhi.symm⟩
  ·rename_i k n
   simp only [Option.some.injEq] at hhi
   subst hhi
   obtain ⟨v,e,hv⟩ := rh _ rfl
   rw [rep_int (srep_v hv)] at e
   exact .inr ⟨k,e⟩
  ·simp at hhi
 rcases hl with ⟨rfl,rfl⟩ | ⟨k,rfl⟩ <;> rcases hh with ⟨rfl,rfl⟩ | ⟨k',rfl⟩
 ·simp [Instr.sliceBounds]
 ·simp [Instr.sliceBounds,sliceBound_run P k' q cap _ (by omega) h2]
 ·simp [Instr.sliceBounds,sliceBound_run P k p len _ h0 h1]
 ·have e : p ≤ (q.toNat : Int) := by omega
  simp [Instr.sliceBounds,sliceBound_run P k' q cap _ (by omega) h2,sliceBound_run P k p q.toNat _ h0 e]
theorem sliceOp_sound (hE : EnvOk E) {t : TypeId} {x : SV} {lo hi mx : Option SV} {K : SV → Prop} (h : vcSliceOp E t x lo hi mx K) {v : Value} (hx : SRep G.com w β x v)
  (hrx : ∀ i,x.refs i → st.loc i ≠ none) {vlo vhi vmx : Option Value} (rl : ∀ x,lo = some x → ∃ v,vlo = some v ∧ SRep G.com w β x v) (rl' : lo = none → vlo = none)
  (rh : ∀ x,hi = some x → ∃ v,vhi = some v ∧ SRep G.com w β x v) (rh' : hi = none → vhi = none) (rm : mx = none → vmx = none) :
  ∃ r z,K r ∧ SRep G.com w β r z ∧ (∀ i,r.refs i → st.loc i ≠ none) ∧ (Instr.sliceAt t v vlo vhi vmx).run E.P w = .ok z w := by
 unfold vcSliceOp at h
 split at h
 ·exact h.elim
 ·rw [rm rfl]
  split at h
  ·rename_i sz l e sz0 by0 z0 hT
   obtain ⟨dd,hdd,hu,hr⟩ := run_und hE hT
   cases dd <;> simp only [descOk] at hdd
   subst hdd
   split at h
   ·rename_i i p q hTe hlo hhi
    obtain ⟨⟨rfl,h0,h1,h2⟩,hk⟩ := h
    have hs := (hE _ _ hTe).size w
    rcases rep_slice (srep_v hx) with ⟨rfl,rfl | ⟨a0,cap0,rfl,hm0⟩⟩ | ⟨b,off,cap,vs,rfl,q1,q2,q3,q4,q5,q6⟩
    ·have hb := bounds_sound E.P true 0 0 hlo hhi h0 h1 (by simpa using h2) rl rl' rh rh'
     have e1 : p.toNat = 0 := by simp at h2; omega
     have e2 : q.toNat = 0 := by simp at h2; omega
     rw [e1,e2] at hb hk
     refine ⟨_,.slice none 0 0,hk,by unfold SRep; exact Rep.nilslice _,fun i hi => hi.elim,?_⟩
     simp [Instr.sliceAt,Sem.run_bind,hr,Instr.slice,hb,hs]
    ·have hb := bounds_sound E.P true 0 cap0 hlo hhi h0 h1 (by simp at h2; omega) rl rl' rh rh'
     have e1 : p.toNat = 0 := by simp at h2; omega
     have e2 : q.toNat = 0 := by simp at h2; omega
     rw [e1,e2] at hb hk
     refine ⟨_,.slice (some (if cap0 = 0 then a0 else a0.add (0 * i.size))) 0 cap0,hk,by unfold SRep; exact Rep.emptyslice _ _ _ hm0,fun i hi => hi.elim,?_⟩
     simp only [Instr.sliceAt,Sem.run_bind,hr,Result.andThen_ok,Instr.slice,hb,hs,Sem.run_pure]
     by_cases hc : cap0 = 0
     ·simp [hc]
     ·simp [hc]
    ·have hb := bounds_sound E.P true l.length cap hlo hhi h0 h1 (by omega) rl rl' rh rh'
     have hql : q.toNat ≤ l.length := by omega
     have hpq : p.toNat ≤ q.toNat := by omega
     have hlen : ((l.take q.toNat).drop p.toNat).length = q.toNat - p.toNat := by simp; omega
     have hmem : ∀ e ∈ (l.take q.toNat).drop p.toNat,e.cells.length = i.size ∧ e.cells.all flat = true := fun e he => q1 e (List.mem_of_mem_take (List.mem_of_mem_drop he))
     have hmul : q.toNat * i.size ≤ l.length * i.size := Nat.mul_le_mul_right _ hql
     have hsub : (q.toNat - p.toNat) * i.size = q.toNat * i.size - p.toNat * i.size := Nat.sub_mul _ _ _
     have hmul2 : p.toNat * i.size ≤ q.toNat * i.size := Nat.mul_le_mul_right _ hpq
     refine ⟨_,.slice (if cap = p.toNat then some ⟨b,off,none⟩ else some ⟨b,off + p.toNat * i.size,none⟩) (q.toNat - p.toNat) (cap - p.toNat),hk,?_,fun i hi => hi.elim,?_⟩
     ·unfold SRep
      rw [← hlen]
      by_cases hc : cap = p.toNat
      ·have he : (l.take q.toNat).drop p.toNat = [] := List.eq_nil_of_length_eq_zero (by rw [hlen]; omega)
       rw [if_pos hc,he]
       exact .slice _ [] b off _ (fun _ => undef) (by simp) (by simp) (by omega) (by simp; omega) (fun i hi => by simp at hi) (fun k e j x hk => by simp at hk)
      ·rw [if_neg hc]
       refine .slice _ _ b (off + p.toNat * i.size) _ (fun k => vs (p.toNat * i.size + k)) hmem (by rw [hlen]; omega) (by omega) (by rw [hlen]; omega) (fun k hk => ?_) (fun k e j y hk hj => ?_)
       ·rw [hlen] at hk
        rw [Nat.add_assoc]; exact q5 _ (by omega)
       ·rw [List.getElem?_drop,List.getElem?_take] at hk
        by_cases hlt : p.toNat + k < q.toNat
        ·rw [if_pos hlt] at hk
         have := q6 (p.toNat + k) e j y hk hj
         rw [Nat.add_mul] at this
         rw [← Nat.add_assoc]; exact this
        ·rw [if_neg hlt] at hk; simp at hk
     ·simp only [Instr.sliceAt,Sem.run_bind,hr,Result.andThen_ok,Instr.slice,hb,hs,Sem.run_pure]
      by_cases hc : cap = p.toNat
      ·simp [hc]
      ·simp [hc,addr_add]
   ·exact h.elim
  ·rename_i j off len cap e sz0 by0 z0 hT
   obtain ⟨dd,hdd,hu,hr⟩ := run_und hE hT
   cases dd <;> simp only [descOk] at hdd
   subst hdd
   split at h
   ·rename_i i p q hTe hlo hhi
    obtain ⟨⟨h0,h1,h2⟩,hk⟩ := h
    have hs := (hE _ _ hTe).size w
    obtain ⟨hlc,off',rfl,ho⟩ := hx
    have hb := bounds_sound E.P true len cap hlo hhi h0 h1 h2 rl rl' rh rh'
    refine ⟨_,.slice (if cap = p.toNat then some ⟨β j,off',none⟩ else some ⟨β j,off' + p.toNat * i.size,none⟩) (q.toNat - p.toNat) (cap - p.toNat),hk,⟨by omega,?_⟩,fun k hk => hrx k hk,?_⟩
    ·by_cases hc : cap = p.toNat
     ·rw [if_pos hc]; exact ⟨off',rfl,.inr (by omega)⟩
     ·rw [if_neg hc]
      refine ⟨_,rfl,.inl ?_⟩
      rcases ho with rfl | ho
      ·rfl
      ·omega
    ·simp only [Instr.sliceAt,Sem.run_bind,hr,Result.andThen_ok,Instr.slice,hb,hs,Sem.run_pure]
     by_cases hc : cap = p.toNat
     ·simp [hc]
     ·simp [hc,addr_add]
   ·exact h.elim
  ·rename_i s sz0 by0 z0 hT
   obtain ⟨dd,hdd,hu,hr⟩ := run_und hE hT
   cases dd <;> simp only [descOk] at hdd
   split at h
   ·rename_i p q hlo hhi
    obtain ⟨⟨h0,h1,h2⟩,hk⟩ := h
    rw [rep_str (srep_v hx)]
    have hb := bounds_sound E.P false s.size s.size hlo hhi h0 h1 h2 rl rl' rh rh'
    refine ⟨_,_,hk,.str _,fun i hi => hi.elim,?_⟩
    simp [Instr.sliceAt,Sem.run_bind,hr,Instr.slice,hb]
   ·exact h.elim
  ·rename_i j off n e sz0 by0 z0 hT
   obtain ⟨dd,hdd,hu,hr⟩ := run_und hE hT
   cases dd <;> simp only [descOk] at hdd
   obtain ⟨rfl,rfl⟩ := hdd
   split at h
   ·rename_i i p q hTe hlo hhi
    obtain ⟨⟨h0,h1,h2⟩,hk⟩ := h
    have hs := (hE _ _ hTe).size w
    have ev : v = .pointer (some ⟨β j,off,none⟩) := hx
    subst ev
    have hb := bounds_sound E.P false n n hlo hhi h0 h1 h2 rl rl' rh rh'
    refine ⟨_,.slice (if n = p.toNat then some ⟨β j,off,none⟩ else some ⟨β j,off + p.toNat * i.size,none⟩) (q.toNat - p.toNat) (n - p.toNat),hk,⟨by omega,?_⟩,fun k hk => hrx k hk,?_⟩
    ·by_cases hc : n = p.toNat
     ·rw [if_pos hc]; exact ⟨off,rfl,.inr (by omega)⟩
     ·rw [if_neg hc]; exact ⟨_,rfl,.inl rfl⟩
    ·simp only [Instr.sliceAt,Sem.run_bind,hr,Result.andThen_ok,Instr.sureAddr,hb,hs,Sem.run_pure]
     by_cases hc : n = p.toNat
     ·simp [hc]
     ·simp [hc,addr_add]
   ·exact h.elim
  ·rename_i k off n e sz0 by0 z0 hT
   obtain ⟨dd,hdd,hu,hr⟩ := run_und hE hT
   cases dd <;> simp only [descOk] at hdd
   obtain ⟨rfl,rfl⟩ := hdd
   split at h
   ·rename_i i p q hTe hlo hhi
    obtain ⟨⟨h0,h1,h2,h3⟩,hk⟩ := h
    have hs := (hE _ _ hTe).size w
    have ev : v = .pointer (some ⟨k,off,none⟩) := by cases (srep_v hx); rfl
    subst ev
    have hb := bounds_sound E.P false n n hlo hhi h0 h1 h2 rl rl' rh rh'
    have hc : ¬ n = p.toNat := by omega
    refine ⟨_,.slice (some ⟨k,off + p.toNat * i.size,none⟩) (q.toNat - p.toNat) (n - p.toNat),hk,.mslice _ _ _ _,fun k hk => hk.elim,?_⟩
    simp only [Instr.sliceAt,Sem.run_bind,hr,Result.andThen_ok,Instr.sureAddr,hb,hs,Sem.run_pure]
    simp [hc,addr_add]
   ·exact h.elim
  ·rename_i k off len cap e sz0 by0 z0 hT
   obtain ⟨dd,hdd,hu,hr⟩ := run_und hE hT
   cases dd <;> simp only [descOk] at hdd
   subst hdd
   split at h
   ·rename_i i p q hTe hlo hhi
    obtain ⟨⟨h0,h1,h2,h3⟩,hk⟩ := h
    have hs := (hE _ _ hTe).size w
    have ev : v = .slice (some ⟨k,off,none⟩) len cap := rep_mslice_pos (srep_v hx) (.inr (by omega))
    subst ev
    have hb := bounds_sound E.P true len cap hlo hhi h0 h1 h2 rl rl' rh rh'
    have hc : ¬ cap = p.toNat := by omega
    refine ⟨_,.slice (some ⟨k,off + p.toNat * i.size,none⟩) (q.toNat - p.toNat) (cap - p.toNat),hk,.mslice _ _ _ _,fun k hk => hk.elim,?_⟩
    simp only [Instr.sliceAt,Sem.run_bind,hr,Result.andThen_ok,Instr.slice,hb,hs,Sem.run_pure]
    simp [hc,addr_add]
   ·exact h.elim
  ·exact h.elim
end
end Go.Proofs.YtdmejgfcaacdoaaGreat.Abs
/- The abstract machine,part 12: every operation that calls no function: 'ev' is sound. -/
namespace Go.Proofs.YtdmejgfcaacdoaaGreat.Abs
set_option linter.unusedSimpArgs false
open Go Go.RowKit
def OpOk (P : Program) (o : Oper) (a : Act) (w : World) (G : Gh) (st' : St) : Prop :=
 ∃ v w' G',((execOp a.eval o).run P w = .ok (.value v) w' ∨ ((execOp a.eval o).run P w = .ok .skip w' ∧ v = undef)) ∧ Ext G w G' w' ∧ Inv G' w' ∧ FRel G' w' (a.put o.dst v) st'
section
variable {E : Env} {G : Gh} {w : World} {β : Nat → Nat} {R : Nat → Role} {a : Act} {st : St}
theorem vcLenT_sound (hE : EnvOk E) {t : TypeId} {x : SV} {K : AV → Prop} (h : vcLenT E t x K) {v : Value} (hx : SRep G.com w β x v) (ts : List TypeId) (vs : List Value) (ty : TypeId) :
  ∃ r z,K r ∧ Rep G.com w r z ∧ (Builtin.len_ (t :: ts).toArray ty (v :: vs).toArray).run E.P w = .ok z w := by
 unfold vcLenT at h
 split at h
 ·rename_i e sz0 by0 z0 hT
  obtain ⟨dd,hdd,hu,hr⟩ := run_und hE hT
  cases dd <;> simp only [descOk] at hdd
  unfold vcLen at h
  split at h
  ·rename_i sz l
   rcases rep_slice (srep_v hx) with ⟨rfl,rfl | ⟨a0,cap0,rfl,hm0⟩⟩ | ⟨b,off,cap,vs,rfl,q1,q2,q3,q4,q5,q6⟩
   ·exact ⟨_,_,h (by simp),.int _ _,by simp [Builtin.len_,hr,goInt]⟩
   ·exact ⟨_,_,h (by simp),.int _ _,by simp [Builtin.len_,hr,goInt]⟩
   ·exact ⟨_,_,h (by omega),.int _ _,by simp [Builtin.len_,hr,goInt]⟩
  ·obtain ⟨h1,o',rfl,ho⟩ := hx
   exact ⟨_,_,h,.int _ _,by simp [Builtin.len_,hr,goInt]⟩
  ·rcases rep_mslice (srep_v hx) with e | ⟨rfl,rfl,e⟩
   ·rw [e]
    exact ⟨_,_,h,.int _ _,by simp [Builtin.len_,hr,goInt]⟩
   ·rw [e]
    exact ⟨_,_,h,.int _ _,by simp [Builtin.len_,hr,goInt]⟩
  ·exact h.elim
 ·rename_i sz0 by0 z0 hT
  obtain ⟨dd,hdd,hu,hr⟩ := run_und hE hT
  cases dd <;> simp only [descOk] at hdd
  split at h
  ·rw [rep_str (srep_v hx)]
   exact ⟨_,_,h,.int _ _,by simp [Builtin.len_,hr,goInt]⟩
  ·exact h.elim
 ·rename_i n e sz0 by0 z0 hT
  obtain ⟨dd,hdd,hu,hr⟩ := run_und hE hT
  cases dd <;> simp only [descOk] at hdd
  obtain ⟨rfl,rfl⟩ := hdd
  exact ⟨_,_,h,.int _ _,by simp [Builtin.len_,hr,goInt]⟩
 ·exact h.elim
theorem storeVar_sound (hE : EnvOk E) {t : TypeId} {x : AV} {l : List AV} {off : Nat} {K : List AV → Prop} (h : vcStoreAt E t x l off K) {v : Value} (hx : Rep G.com w x v)
  {b : Nat} {cs : List Value} {e : TypeId} (hb : w.heap[b]? = some (.cells cs.toArray e (0,0))) (hr : Reps G.com w l cs) :
  ∃ l' cs',K l' ∧ Reps G.com w l' cs' ∧ l'.length = l.length ∧ (storeVar t ⟨b,off,none⟩ v).run E.P w = .ok () (w.setBlock' b (.cells cs'.toArray e (0,0))) := by
 unfold vcStoreAt at h
 split at h
 ·rename_i i hT
  obtain ⟨⟨h1,h2,h3,h4⟩,hk⟩ := h
  have hs := (hE _ _ hT).size w
  have hc := rep_cells hx h1
  have hvl : v.cells.toList.length = i.size := by rw [← hc.1,h3]
  have hll : cs.length = l.length := hr.1.symm
  have hp : ∀ u ∈ v.cells.toList,plainV u = true := by
   intro u hu
   obtain ⟨k,hk,rfl⟩ := List.mem_iff_getElem.1 hu
   have hk' : k < x.cells.length := by rw [hc.1]; exact hk
   have hf : flat x.cells[k] = true := List.all_eq_true.1 h2 _ (List.getElem_mem hk')
   have hrk := hc.2 k x.cells[k] v.cells.toList[k] (List.getElem?_eq_getElem hk') (List.getElem?_eq_getElem hk)
   have hpl := flat_plain hrk hf
   cases hcv : v.cells.toList[k] with
   | agg a => exact absurd hcv (hpl a).1
   | tuple a => exact absurd hcv (hpl a).2
   | _ => rfl
  have hst := storeCells_run (P := E.P) (b := b) (off := off) (e := e) v.cells.toList 0 w cs hb (by rw [hvl,hll]; omega) hp
  simp only [Nat.add_zero] at hst
  refine ⟨_,_,hk,hr.overlay hc off,?_,?_⟩
  ·simp [overlay]; omega
  ·have hvs : ¬ v.cells.size ≠ i.size := by rw [← Array.length_toList,hvl]; simp
   simp only [storeVar,Sem.run_bind,hs,Result.andThen_ok]
   rw [if_neg hvs]
   simpa using hst
 ·exact h.elim
theorem FRelB.moveOwn (h : FRelB G w β R a st) {t d : Tmp} (hd : d < a.tmps.size) (ho : st.own t = true) :
  FRel G w (a.put (some d) (a.tmps.getD t undef)) (({ st with own := upd st.own t false } : St).put (some d) (st.vals t) true) := by
 obtain ⟨sz,l,e,hv⟩ := h.own t ho
 refine ⟨β,fun b => match R b with | .own s' => if s' = t then .own d else .own s' | r => r,(h.disown t).putOwn hd (h.vals t) (h.ref t) ?_ (fun b hb => ?_) (fun b hb => ?_)⟩
 ·refine ⟨sz,l,e,hv.imp id ?_⟩
  rintro ⟨b,len,cap,cs,el,h1,h2,h3,h4,h5,h6,h7,h8⟩
  exact ⟨b,len,cap,cs,el,h1,h2,h3,h4,h5,h6,h7,by simp [h8]⟩
 ·rcases hb with ⟨s,hs,ho',hb⟩ | ⟨i,hb⟩ | hb
  ·have : s ≠ t := by rintro rfl; simp [upd_same] at ho'
   simp [hb,this]
  ·simp [hb]
  ·simp [hb]
 ·refine h.rlt b ?_
  intro e; simp [e] at hb
theorem put_disowned (st : St) (d : Tmp) (x : SV) (o : Bool) : ({ st with own := upd st.own d false } : St).put (some d) x o = st.put (some d) x o := by
 simp only [St.put]
 congr 1
 funext k
 by_cases e : k = d
 ·subst e; simp [upd_same]
 ·simp [upd_ne _ _ e]
theorem opOk_value {o : Oper} (hf : FRelB G w β R a st) (hi : Inv G w) (hd : ∀ t,o.dst = some t → t < a.tmps.size) {x : SV} {v : Value} (hx : SRep G.com w β x v) (hr : ∀ i,x.refs i → st.loc i ≠ none)
  (hrun : (execOp a.eval o).run E.P w = .ok (.value v) w) : OpOk E.P o a w G (st.eff o.dst (.put x false)) :=
 ⟨v,w,G,.inl hrun,Ext.refl _ _,hi,β,R,hf.put hd hx hr⟩
theorem opOk_av {o : Oper} (hf : FRelB G w β R a st) (hi : Inv G w) (hd : ∀ t,o.dst = some t → t < a.tmps.size) {x : AV} {v : Value} (hx : Rep G.com w x v)
  (hrun : (execOp a.eval o).run E.P w = .ok (.value v) w) : OpOk E.P o a w G (st.eff o.dst (.put (.v x) false)) :=
 opOk_value hf hi hd (x := .v x) hx (fun _ h => h.elim) hrun
theorem avs_sound {com : Nat → Nat} : ∀ (xs : List SV) (ys : List AV) (vs : List Value),avs xs = some ys → xs.length = vs.length → (∀ (k : Nat) (x : SV) (v : Value),xs[k]? = some x → vs[k]? = some v → SRep com w β x v) → Reps com w ys vs
 | [],ys,vs,h,hl,_ => by
  simp only [avs,Option.some.injEq] at h
  subst h
  cases vs with
  | nil => exact Reps.nil
  | cons => simp at hl
 | x :: xs,ys,vs,h,hl,hr => by
  cases vs with
  | nil => simp at hl
  | cons v vs =>
   cases x with
   | v x =>
    simp only [avs,Option.map_eq_some_iff] at h
    obtain ⟨zs,hz,rfl⟩ := h
    exact Reps.cons (hr 0 _ _ rfl rfl) (avs_sound xs zs vs hz (by simpa using hl) (fun k x v hk hv => hr (k + 1) x v (by simpa using hk) (by simpa using hv)))
   | loc => simp [avs] at h
   | lslice => simp [avs] at h
theorem map_srep (hf : FRelB G w β R a st) (T : TypeId → Option TyI) (ty : TypeId) (xs : List Operand) (k : Nat) (x : SV) (v : Value) (h1 : (xs.map (st.sv T ty))[k]? = some x) (h2 : (xs.map a.eval)[k]? = some v) : SRep G.com w β x v := by
 rw [List.getElem?_map] at h1 h2
 cases hx : xs[k]? with
 | none => rw [hx] at h1; simp at h1
 | some y =>
  rw [hx] at h1 h2
  simp only [Option.map_some,Option.some.injEq] at h1 h2
  subst h1; subst h2
  exact hf.eval T ty y
theorem parts_srep (hf : FRelB G w β R a st) (T : TypeId → Option TyI) (f : Nat × Operand → TypeId) (parts : Array (Nat × Operand)) :
  ∀ (k i : Nat) (x : SV) (i' : Nat) (v : Value),(parts.toList.map fun p => (p.1,st.sv T (f p) p.2))[k]? = some (i,x) → (parts.map fun (i,x) => (i,a.eval x)).toList[k]? = some (i',v) → i = i' ∧ ∀ y,x = .v y → Rep G.com w y v := by
 intro k i x i' v h1 h2
 rw [List.getElem?_map] at h1
 rw [Array.toList_map,List.getElem?_map] at h2
 cases hx : parts.toList[k]? with
 | none => rw [hx] at h1; simp at h1
 | some y =>
  rw [hx] at h1 h2
  simp only [Option.map_some,Option.some.injEq,Prod.mk.injEq] at h1 h2
  refine ⟨h1.1.symm.trans h2.1,fun z hz => ?_⟩
  have := hf.eval T (f y) y.2
  rw [h1.2,h2.2,hz] at this
  exact this
theorem optmap_some (hf : FRelB G w β R a st) (T : TypeId → Option TyI) (o : Option Operand) (x : SV) (h : o.map (st.sv T 0) = some x) : ∃ v,o.map a.eval = some v ∧ SRep G.com w β x v := by
 cases o with
 | none => simp at h
 | some y =>
  simp only [Option.map_some,Option.some.injEq] at h
  subst h
  exact ⟨_,rfl,hf.eval T 0 y⟩
theorem optmap_none (T : TypeId → Option TyI) (o : Option Operand) (h : o.map (st.sv T 0) = none) : o.map a.eval = none := by
 cases o with
 | none => rfl
 | some y => simp at h
end
end Go.Proofs.YtdmejgfcaacdoaaGreat.Abs
