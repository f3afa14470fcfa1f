/- Lemmas for the statements of this seat (X11): they hold without conditions beyond those that each one states. -/
import Derived.Test.YtdmejgfcaacdoaaGreatX8
import Derived.Test.YtdmejgfcaacdoaaGreatX6
import Derived.Lib.AppendZerosOnto
import Derived.Test.YtdmejgfcaacdoaaGreatX10
/- The abstract machine,part 37: short statements whose order is open,walked in each of their orders; memory that is settled when a call ends. -/
namespace Go.Proofs.YtdmejgfcaacdoaaGreat.Abs
set_option linter.unusedSimpArgs false
open Go Go.RowKit
inductive OT where
 | done
 | none
 | alt (i : Nat) (sub rest : OT)
section
variable {E : Env} {n : Nat}
end
/-! ### Memory that is settled when a call ends -/
def frozenC (G : Gh) (m m' : Mem) (b : Nat) : Nat := match m' b,m b with
 | none,some (.cells l) => l.length
 | _,_ => G.com b
theorem ACall.settle {P : Program} {f : FuncId} {xs : List AV} {m : Mem} {K : AV → Mem → Prop}
  (h : ACall P f xs m fun r m1 => ∃ r' m2,(∀ b x,m2 b = some x → m1 b = some x) ∧ K r' m2 ∧ ∀ (G : Gh) (w : World) (v : Value),MemRep G w m1 → Rep G.com w r v → Rep (frozenC G m1 m2) w r' v) : ACall P f xs m K := by
 refine ⟨h.enters,fun G w vs hi hm hr => (h.does G w vs hi hm hr).mono fun e w' ⟨v,r,m1,G',he,hx,hi',hm',hr',r',m2,hsub,hK,hrep⟩ => ?_⟩
 let G2 : Gh := { G' with com := frozenC G' m1 m2 }
 have hle : ∀ b,G'.com b ≤ frozenC G' m1 m2 b := fun b => by
  unfold frozenC
  split
  ·rename_i l hb
   rw [(hm' b _ hb).2.2.2.1]; exact Nat.zero_le _
  ·exact Nat.le_refl _
 have hkeep : ∀ b,(m1 b = none ∨ ∃ x,m2 b = some x) → frozenC G' m1 m2 b = G'.com b := fun b hb => by
  unfold frozenC
  split
  ·rename_i l h1 h2
   rcases hb with hb | ⟨x,hb⟩
   ·rw [hb] at h2; cases h2
   ·rw [hb] at h1; cases h1
  ·rfl
 have hx2 : Ext G' w' G2 w' := ⟨rfl,rfl,Nat.le_refl _,hle,fun _ _ _ => rfl,fun b hb => ⟨rfl,by
  refine hkeep b (.inl ?_)
  cases q : m1 b with
  | none => rfl
  | some x => exact absurd hb (hm' b x q).2.2.1⟩⟩
 have hi2 : Inv G2 w' := ⟨hi'.below,fun b hb => by
  show isCells w' b (frozenC G' m1 m2 b)
  have hb : frozenC G' m1 m2 b ≠ 0 := hb
  unfold frozenC at hb ⊢
  split
  ·rename_i l h1 h2
   obtain ⟨_,_,_,_,cs,e,c1,c2⟩ := hm' b _ h2
   exact ⟨_,_,_,c1,by rw [List.size_toArray,c2.1]; exact Nat.le_refl _⟩
  ·rename_i q
   refine hi'.com b ?_
   split at hb
   ·exact absurd ‹m1 b = _› (q _ ‹m2 b = _›)
   ·exact hb,hi'.lock⟩
 refine ⟨v,r',m2,G2,he,hx.trans hx2,hi2,fun b x hb => ?_,hrep G' w' v hm' hr',hK⟩
 obtain ⟨b1,b2,b3,b4,b5⟩ := hm' b x (hsub b x hb)
 exact ⟨b1,b2,b3,by show frozenC G' m1 m2 b = 0; rw [hkeep b (.inr ⟨x,hb⟩)]; exact b4,b5.ext hx2 rfl⟩
end Go.Proofs.YtdmejgfcaacdoaaGreat.Abs
/- The abstract machine,part 38: appends of so many zero values to a slice of one's own. -/
namespace Go.Proofs.YtdmejgfcaacdoaaGreat.Abs
set_option linter.unusedSimpArgs false
open Go Go.RowKit
theorem zeroCells_toList (z : Array Value) (n : Nat) : (Builtin.zeroCells z n).toList = (List.replicate n z.toList).flatten := zrow z n
theorem run_append_room_zeros {P : Program} (w : World) (t tn ty e : TypeId) (i : TypeInfo) (z : Value) (kq kn : IntKind) (ht : P.underlying t = some (.slice e)) (htn : P.underlying tn = some (.int kn)) (hi : P.info? e = some i) (hz : i.zero = some z)
  (b sLen sCap k : Nat) (h0 : 0 < k) (hs : 0 < i.size) (h63 : (k : Int) ≤ 9223372036854775807) (h48 : k * i.bytes ≤ 281474976710656) (hroom : sLen + k ≤ sCap) {cs : List Value} {e' : TypeId} (hg : w.heap[b]? = some (.cells cs.toArray e' (0,0)))
  (hfit : sLen * i.size + (Builtin.zeroCells z.cells k).toList.length ≤ cs.length) (hp : ∀ v ∈ (Builtin.zeroCells z.cells k).toList,plainV v = true) :
  (Builtin.append_ #[t,tn] ty #[.slice (some ⟨b,0,none⟩) sLen sCap,.int kq k]).run P w =
   .ok (.slice (some ⟨b,0,none⟩) (sLen + k) sCap) (w.setBlock' b (.cells (writeAt cs (sLen * i.size) (Builtin.zeroCells z.cells k).toList).toArray e' (0,0))) := by
 have hst := storeCells_run (P := P) (b := b) (off := sLen * i.size) (e := e') (Builtin.zeroCells z.cells k).toList 0 w cs hg (by omega) hp
 simp only [Nat.add_zero] at hst
 have hk : k ≠ 0 := by omega
 have hw : IntKind.i64.wrap (k : Int) = k := by rw [IntKind.wrap_i64]; omega
 have h48i : ¬ (281474976710656 < (k : Int) * (i.bytes : Int)) := by
  rw [← Int.natCast_mul]
  omega
 have hneg : ¬ ((k : Int) < 0) := by omega
 have hns : ¬ (k * i.size = 0) := Nat.mul_ne_zero hk (by omega)
 simp [Builtin.append_,run_underlying ht,run_underlying htn,sizeOf,typeInfo,zeroValue,hi,hz,asInt,asIntOf,hw,hneg,hns,h48i,hroom,addr_add,hst]
theorem run_append_no_zeros {P : Program} (w : World) (t tn ty e : TypeId) (i : TypeInfo) (kq kn : IntKind) (ht : P.underlying t = some (.slice e)) (htn : P.underlying tn = some (.int kn)) (hi : P.info? e = some i)
  (base : Option Addr) (sLen sCap : Nat) (hroom : sLen ≤ sCap) : (Builtin.append_ #[t,tn] ty #[.slice base sLen sCap,.int kq 0]).run P w = .ok (.slice base sLen sCap) w := by
 have hw : IntKind.i64.wrap 0 = 0 := by decide
 cases base <;> simp [Builtin.append_,run_underlying ht,run_underlying htn,sizeOf,typeInfo,hi,asInt,asIntOf,hw,hroom,storeCells]
section
variable {E : Env} {G : Gh} {w : World} {a : Act} {st : St} {n : Nat}
def vcAppI (E : Env) (o : Oper) (K : St → Prop) (st : St) : Prop :=
 match o.dst,o.op with
 | some d,.call c => match c.callee,c.argTypes.toList,c.args.toList with
  | .builtin .append,[t,tn],[.tmp s,y] => match E.T t,E.T tn,st.vals s,st.sv E.T tn y with
   | some ⟨.slice e,_,_,_⟩,some ⟨.int _,_,_,_⟩,.v (.slice sz l),.v (.int _ k) => match E.T e with
    | some i => (st.own s = true ∧ 0 ≤ k ∧ i.size = sz ∧ sz ≠ 0 ∧ i.bytes ≠ 0 ∧ (l.length + k.toNat) * i.bytes ≤ 140737488355328) ∧
     K (({ st with own := upd st.own s false } : St).put (some d) (.v (.slice sz (l ++ List.replicate k.toNat (zeroOf i)))) true)
    | none => False
   | _,_,_,_ => False
  | _,_,_ => False
 | _,_ => False
theorem vcAppI_sound (hE : EnvOk E) {o : Oper} {K : St → Prop} (h : vcAppI E o K st) (hd : dstOk n o = true) (hi : Inv G w) (hf : FRel G w a st) (hs : a.tmps.size = n) {r : Option Nat}
  {next : Act → World → Prop} {Q : Exit → Act → World → Prop} (hn : ∀ a' w' G' st',Ext G w G' w' → Inv G' w' → FRel G' w' a' st' → a'.tmps.size = n → K st' → next a' w') : o.wpIn (fen r) 0 E.P a w next Q := by
 have hd' : ∀ t,o.dst = some t → t < a.tmps.size := fun t ht => by rw [hs]; simpa [dstOk,ht] using hd
 obtain ⟨β,R,hf⟩ := hf
 unfold vcAppI at h
 split at h
 ·rename_i d c hdst hop
  split at h
  ·rename_i t tn s y hcb hts hys
   split at h
   ·rename_i e sz0 by0 z0 kn sz1 by1 z1 sz l kq k hT hTn hv hy
    split at h
    ·rename_i i hTe
     obtain ⟨⟨hown,hk0,rfl,hsz,hby,hbd⟩,hk⟩ := h
     have hdd : d < a.tmps.size := hd' d hdst
     obtain ⟨dd,hdsc,hu,hr⟩ := run_und hE hT
     cases dd <;> simp only [descOk] at hdsc
     subst hdsc
     obtain ⟨dn,hdn,hun,_⟩ := run_und hE hTn
     cases dn <;> simp only [descOk] at hdn
     have ok := hE _ _ hTe
     obtain ⟨fi,zv,d',g1,g2,g3,g4,g5,g6,g7,g8⟩ := ok.ex
     obtain ⟨q,rfl⟩ : ∃ q : Nat,k = q := ⟨k.toNat,by omega⟩
     rw [Int.toNat_natCast] at hbd hk
     have hu1 : a.eval y = .int kq q := by
      have := hf.eval E.T tn y
      rw [hy] at this
      exact rep_int (srep_v this)
     obtain ⟨v,hvv⟩ : ∃ v,v = a.tmps.getD s undef := ⟨_,rfl⟩
     have hev : a.eval (.tmp s) = v := by rw [hvv]; rfl
     have hsr : SRep G.com w β (.v (.slice i.size l)) v := by
      have := hf.vals s
      rw [hv,← hvv] at this
      exact this
     obtain ⟨olds,ho1,ho2,ho3,ho4,ho5⟩ := slice_row (srep_v hsr)
     have hzl : zv.cells.size = i.size := by
      have := rep_cells (g7 G.com w) ok.zc.2.1
      have h1 := this.1
      rw [ok.zc.1,ok.zc.2.2.1] at h1
      simpa using h1.symm
     have hflz : (zeroOf i).cells.all flat = true := by rw [ok.zc.1]; exact ok.zc.2.2.2
     have hclz : (zeroOf i).cells.length = i.size := by rw [ok.zc.1]; exact ok.zc.2.2.1
     obtain ⟨news,hnews⟩ : ∃ news,news = (Builtin.zeroCells zv.cells q).toList := ⟨_,rfl⟩
     have hn1 : RowRep G.com w i.size (List.replicate q (zeroOf i)) news := by
      rw [hnews,zeroCells_toList]
      exact RowRep.replicate (rep_cells (g7 G.com w) ok.zc.2.1) hclz q
     have hn2 : ∀ x ∈ List.replicate q (zeroOf i),x.cells.all flat = true := fun x hx => by rw [List.eq_of_mem_replicate hx]; exact hflz
     have hnl : news.length = q * i.size := by have := hn1.1; rwa [List.length_replicate] at this
     have hrow := ho1.append hn1
     have hflat : ∀ x ∈ l ++ List.replicate q (zeroOf i),x.cells.all flat = true := fun x hx => (List.mem_append.1 hx).elim (ho2 x) (hn2 x)
     have hlen : (l ++ List.replicate q (zeroOf i)).length = l.length + q := by simp
     have hml : l.length + q ≤ maxLen := by
      have : l.length + q ≤ (l.length + q) * i.bytes := Nat.le_mul_of_pos_right _ (by omega)
      unfold maxLen; omega
     have hqb : q * i.bytes ≤ 140737488355328 := Nat.le_trans (Nat.mul_le_mul_right _ (Nat.le_add_left _ _)) hbd
     have hq63 : (q : Int) ≤ 9223372036854775807 := by unfold maxLen at hml; omega
     have fin : ∀ (z : Value) (w' : World) (G' : Gh),(Builtin.append_ #[t,tn] o.type #[v,.int kq q]).run E.P w = .ok z w' → Ext G w G' w' → Inv G' w' →
       FRel G' w' (a.put (some d) z) (({ st with own := upd st.own s false } : St).put (some d) (.v (.slice i.size (l ++ List.replicate q (zeroOf i)))) true) → o.wpIn (fen r) 0 E.P a w next Q := by
      intro z w' G' hrun x1 x2 x3
      have hexec : (execOp a.eval o).run E.P w = .ok (.value z) w' := by
       have e1 : c.argTypes = #[t,tn] := by apply Array.ext'; simp [hts]
       have e2 : c.args.map a.eval = #[v,.int kq q] := by
        apply Array.ext'; rw [Array.toList_map,hys]
        simp [hev,hu1]
       unfold execOp
       simp only [hop,resolve,hcb,Sem.run_bind,Sem.run_pure,Result.andThen_ok,invoke]
       rw [e1,e2]
       simp [builtin,hrun]
      refine oper_in (fun c hc => by rw [hop] at hc; cases hc) ?_
      rw [hexec]
      have hnn := hn _ _ G' _ x1 x2 x3 (by rw [put_size]; exact hs) hk
      show next (a.put o.dst _) _
      rw [hdst]
      exact hnn
     have grow : ∀ (base : Option Addr) (cap : Nat),v = .slice base l.length cap → cap < l.length + q → 0 < q → o.wpIn (fen r) 0 E.P a w next Q := by
      intro base cap hvb hg hq0
      have hcap48 : Builtin.nextslicecap (l.length + q) cap * fi.bytes ≤ 281474976710656 := growslice_fits hg (by rw [g3]; exact hbd)
      have hrun := Lib.run_append_grow_zeros (P := E.P) w t tn o.type e fi zv kq _ hu hun g1 g4 base l.length cap olds (by rw [g2,← hvb]; exact ho3 E.P w.drew (fun _ => rfl)) q hq0 (by rw [g2]; omega) hg (by unfold maxLen at hml; omega) (by rw [g3]; omega) hcap48
      rw [← hvb] at hrun
      have hge := grownCap_ge w (l.length + q) cap e
      have hcm := grownCap_le_maxLen w (l.length + q) cap e hml
      have hcs : olds.toArray ++ Builtin.zeroCells zv.cells q ++ Builtin.zeroCells zv.cells (grownCap w (l.length + q) cap e - (l.length + q)) = (olds ++ news ++ (Builtin.zeroCells zv.cells (grownCap w (l.length + q) cap e - (l.length + q))).toList).toArray := by
       apply Array.ext'; simp [hnews]
      rw [hcs] at hrun
      have hcl : ((olds ++ news ++ (Builtin.zeroCells zv.cells (grownCap w (l.length + q) cap e - (l.length + q))).toList)).length = grownCap w (l.length + q) cap e * i.size := by
       simp only [List.length_append,ho1.1,hnl,Array.length_toList,size_zeroCells,hzl]
       rw [← Nat.add_mul,← Nat.add_mul]; congr 1; omega
      have hkeep := (drew_frame (hf.disown s) hi).putRow (drew_grow hi).2 hdd (sz := i.size) (l := l ++ List.replicate q (zeroOf i)) (cs := olds ++ news ++ (Builtin.zeroCells zv.cells (grownCap w (l.length + q) cap e - (l.length + q))).toList) e
       (cap := grownCap w (l.length + q) cap e) (by
        have ht : (olds ++ news ++ (Builtin.zeroCells zv.cells (grownCap w (l.length + q) cap e - (l.length + q))).toList).take ((l ++ List.replicate q (zeroOf i)).length * i.size) = olds ++ news := by
         rw [← hrow.1]; exact List.take_left
        rw [ht]; exact hrow.mono fun x v h => h.ext (drew_grow hi).1) hflat (by rw [hlen]; exact hge) hcm (by rw [hcl]; exact Nat.le_refl _)
      rw [hlen] at hkeep
      exact fin _ _ _ hrun ((drew_grow hi).1.trans hkeep.1) hkeep.2.1 hkeep.2.2
     by_cases hq0 : q = 0
     ·subst hq0
      have hl0 : l ++ List.replicate 0 (zeroOf i) = l := by simp
      obtain ⟨base,cap,hvb,hcap⟩ : ∃ base cap,v = .slice base l.length cap ∧ l.length ≤ cap := by
       rcases rep_slice (srep_v hsr) with ⟨rfl,rfl | ⟨a0,cap0,rfl,_⟩⟩ | ⟨b,off,cap,vs,rfl,_,q2,_⟩
       ·exact ⟨none,0,rfl,Nat.le_refl _⟩
       ·exact ⟨some a0,cap0,rfl,Nat.zero_le _⟩
       ·exact ⟨_,cap,rfl,q2⟩
      have hrun := run_append_no_zeros (P := E.P) w t tn o.type e fi kq _ hu hun g1 base l.length cap hcap
      rw [← hvb] at hrun
      refine fin v w G hrun (Ext.refl _ _) hi ?_
      rw [hl0]
      obtain ⟨sz',l',e1,hown1⟩ := hf.own s hown
      rw [hv] at e1
      cases e1
      rw [← hvv] at hown1
      have hfor := (hf.disown s).forget (s := s) (by simp [upd_same])
      rcases hown1 with e0 | ⟨b,len,cap',cs,el,p1,p2,p3,p4,p5,p6,p7,p8⟩
      ·exact ⟨β,_,hfor.putOwn (x := .v (.slice i.size l)) hdd hsr (fun i hi => hi.elim) ⟨_,_,rfl,.inl e0⟩ (fun b _ => rfl) hfor.rlt⟩
      ·refine ⟨β,upd (fun b => match R b with | .own s' => if s' = s then .free else .own s' | r => r) b (.own d),hfor.putOwn (x := .v (.slice i.size l)) hdd hsr (fun i hi => hi.elim) ?_ (fun k hk => ?_) (fun k hk => ?_)⟩
       ·exact ⟨_,_,rfl,.inr ⟨b,len,cap',cs,el,p1,p2,p3,p4,p5,p6,p7,upd_same _ _ _⟩⟩
       ·refine upd_ne _ _ ?_
        rintro rfl
        rw [p8] at hk
        simp at hk
       ·by_cases ek : k = b
        ·subst ek; exact hf.rlt k (by rw [p8]; simp)
        ·rw [upd_ne _ _ ek] at hk
         exact hfor.rlt k hk
     ·have hqp : 0 < q := by omega
      obtain ⟨sz',l',e1,hown1⟩ := hf.own s hown
      rw [hv] at e1
      cases e1
      rw [← hvv] at hown1
      rcases hown1 with e0 | ⟨b,len,cap,cs,el,p1,p2,p3,p4,p5,p6,p7,p8⟩
      ·have hl0 : l.length = 0 := by
        rcases rep_slice (srep_v hsr) with ⟨rfl,_⟩ | ⟨b,off,cap,vs,e2,_⟩
        ·rfl
        ·rw [e0] at e2; cases e2
       exact grow none 0 (by rw [e0,hl0]) (by omega) hqp
      ·subst p5
       by_cases hroom : l.length + q ≤ cap
       ·have hcs : cs = cs.toList.toArray := by simp
        rw [hcs] at p4
        have hcm : cap ≤ maxLen ∧ ∀ k,k < l.length * i.size → cs.toList[k]? = olds[k]? := by
         rcases rep_slice (srep_v hsr) with ⟨rfl,e2 | ⟨a0,cap0,e2,hm0⟩⟩ | ⟨b2,off2,cap2,vs,e2,r1,r2,r3,r4,r5,r6⟩
         ·rw [p1] at e2; cases e2
         ·rw [p1] at e2; cases e2
          exact ⟨hm0,fun k hk => by simp at hk⟩
         ·rw [p1] at e2; cases e2
          refine ⟨r3,fun k hk => ?_⟩
          have h1 := r5 k hk
          have h3 := ho3 E.P w (fun _ => rfl)
          rw [p1] at h3
          simp only [Builtin.firstCells] at h3
          rw [loadCells_run _ (fun j hj => r5 j hj)] at h3
          simp only [Result.ok.injEq,and_true] at h3
          have h4 : olds = (List.range (l.length * i.size)).map vs := by
           have := congrArg Array.toList h3; simpa using this.symm
          rw [h4,← cell_block p4]
          simp only [Nat.zero_add] at h1
          rw [h1]; simp [hk]
        obtain ⟨hcm,hcell⟩ := hcm
        have hlt := hf.rlt b (by rw [p8]; simp)
        have hmul : (l.length + q) * i.size ≤ cap * i.size := Nat.mul_le_mul_right _ hroom
        have hfit : l.length * i.size + news.length ≤ cs.toList.length := by rw [hnl,← Nat.add_mul]; simp; omega
        have hrun := run_append_room_zeros (P := E.P) w t tn o.type e fi zv kq _ hu hun g1 g4 b l.length cap q hqp (by rw [g2]; omega) hq63 (by rw [g3]; omega) hroom p4 (by rw [g2,← hnews]; exact hfit) (by rw [← hnews]; exact row_plain hn1 hn2)
        rw [g2,← hnews,← p1] at hrun
        have hwl : (writeAt cs.toList (l.length * i.size) news).length = cs.size := by rw [writeAt_length _ _ _ hfit]; simp
        obtain ⟨hxx,hii⟩ := write_grow (c := (l.length + q) * i.size) (o := .cells (writeAt cs.toList (l.length * i.size) news).toArray el (0,0)) hi p2 hlt p3 (by rw [p7,Nat.add_mul]; omega)
         (fun _ => ⟨_,_,_,rfl,by simp only [List.size_toArray,hwl]; omega⟩) (fun k hk => by
          rw [cell_block (heap_setBlock'_same w _ _ hlt),cell_block p4,writeAt_get _ _ _ hfit,if_neg (by omega)])
        have hrep : Rep (G.setCom b ((l.length + q) * i.size)).com (w.setBlock' b (.cells (writeAt cs.toList (l.length * i.size) news).toArray el (0,0))) (.slice i.size (l ++ List.replicate q (zeroOf i))) (.slice (some ⟨b,0,none⟩) (l.length + q) cap) := by
         have hr2 : RowRep (G.setCom b ((l.length + q) * i.size)).com (w.setBlock' b (.cells (writeAt cs.toList (l.length * i.size) news).toArray el (0,0))) i.size (l ++ List.replicate q (zeroOf i)) (olds ++ news) := hrow.mono fun x v h => h.ext hxx
         have := hr2.slice hflat (b := b) (off := 0) (cap := cap) (by rw [hlen]; exact hroom) hcm (by simp [Gh.setCom,upd_same]) (fun k hk => by
          rw [hlen,Nat.add_mul] at hk
          rw [Nat.zero_add,cell_block (heap_setBlock'_same w _ _ hlt),writeAt_get _ _ _ hfit]
          by_cases hk1 : l.length * i.size ≤ k ∧ k < l.length * i.size + news.length
          ·rw [if_pos hk1,List.getElem?_append_right (by rw [ho1.1]; exact hk1.1),ho1.1]
          ·rw [if_neg hk1]
           have hk2 : k < l.length * i.size := by rw [hnl] at hk1; omega
           rw [List.getElem?_append_left (by rw [ho1.1]; exact hk2)]
           exact hcell k hk2)
         rw [hlen] at this; exact this
        have hfor := (hf.disown s).forget (s := s) (by simp [upd_same])
        have hstep := hfor.ext hxx (fun k hk => by
         have hkb : k ≠ b := by rintro rfl; rw [p8] at hk; simp at hk
         exact ⟨heap_setBlock' w _ _ hkb,by simp [Gh.setCom,upd_ne _ _ hkb]⟩)
        refine fin _ _ _ hrun hxx hii ⟨β,upd (fun b => match R b with | .own s' => if s' = s then .free else .own s' | r => r) b (.own d),hstep.putOwn (x := .v (.slice i.size (l ++ List.replicate q (zeroOf i)))) hdd hrep (fun i hi => hi.elim) ?_ (fun k hk => ?_) (fun k hk => ?_)⟩
        ·refine ⟨_,_,rfl,.inr ⟨b,_,cap,_,el,rfl,p2,p3,heap_setBlock'_same w _ _ hlt,hlen.symm,by simp only [List.size_toArray,hwl]; exact p6,by simp [Gh.setCom,upd_same],upd_same _ _ _⟩⟩
        ·refine upd_ne _ _ ?_
         rintro rfl
         rw [p8] at hk
         simp at hk
        ·by_cases ek : k = b
         ·subst ek; simpa [World.setBlock'] using hlt
         ·rw [upd_ne _ _ ek] at hk
          have : R k ≠ .free := by intro e; rw [e] at hk; exact hk rfl
          simpa [World.setBlock'] using hf.rlt k this
       ·exact grow (some ⟨b,0,none⟩) cap p1 (by omega) hqp
    ·exact h.elim
   ·exact h.elim
  ·exact h.elim
 ·exact h.elim
end
end Go.Proofs.YtdmejgfcaacdoaaGreat.Abs
/- The abstract machine,part 39: copies of the first elements of a slice; a cut with a rule of its own behind which a block never changes more. -/
namespace Go.Proofs.YtdmejgfcaacdoaaGreat.Abs
set_option linter.unusedSimpArgs false
open Go Go.RowKit
section
variable {E : Env} {G : Gh} {w : World} {a : Act} {st : St} {n : Nat}
theorem flatten_take {sz : Nat} : ∀ {l : List AV} (k : Nat),(∀ x ∈ l,x.cells.length = sz) → ((l.take k).map AV.cells).flatten = ((l.map AV.cells).flatten).take (k * sz)
 | [],k,_ => by simp
 | x :: l,0,_ => by simp
 | x :: l,k + 1,h => by
  have hx := h x List.mem_cons_self
  rw [List.take_succ_cons,List.map_cons,List.flatten_cons,List.map_cons,List.flatten_cons,flatten_take k fun y hy => h y (List.mem_cons_of_mem _ hy)]
  have e1 : x.cells.take ((k + 1) * sz) = x.cells := List.take_of_length_le (by rw [hx,Nat.add_mul]; omega)
  rw [List.take_append,e1,hx,show (k + 1) * sz - sz = k * sz by rw [Nat.add_mul]; omega]
def vcCopyF (E : Env) (o : Oper) (K : St → Prop) (st : St) : Prop :=
 match o.dst,o.op with
 | some d,.call c => match c.callee,c.argTypes.toList,c.args.toList with
  | .builtin .copy,[t,t2],[x,y] => match E.T t,st.sv E.T t x,st.sv E.T t2 y with
   | some ⟨.slice e,_,_,_⟩,.v (.mslice i off len _),.v (.slice sz l) => match E.T e,st.mem i with
    | some ei,some (.cells cells) => (ei.size = sz ∧ 0 < len ∧ 0 < sz ∧ len ≤ l.length ∧ off + len * sz ≤ cells.length) ∧
     K (st.eff (some d) (.mput (.int .i64 len) i (.cells (overlay cells off ((l.take len).map AV.cells).flatten))))
    | _,_ => False
   | _,_,_ => False
  | _,_,_ => False
 | _,_ => False
theorem vcCopyF_sound (hE : EnvOk E) {o : Oper} {K : St → Prop} (h : vcCopyF E o K st) (hd : dstOk n o = true) (hi : Inv G w) (hf : FRel G w a st) (hs : a.tmps.size = n) {r : Option Nat}
  {next : Act → World → Prop} {Q : Exit → Act → World → Prop} (hn : ∀ a' w' G' st',Ext G w G' w' → Inv G' w' → FRel G' w' a' st' → a'.tmps.size = n → K st' → next a' w') : o.wpIn (fen r) 0 E.P a w next Q := by
 have hd' : ∀ t,o.dst = some t → t < a.tmps.size := fun t ht => by rw [hs]; simpa [dstOk,ht] using hd
 obtain ⟨β,R,hf⟩ := hf
 unfold vcCopyF at h
 split at h
 ·rename_i d c hdst hop
  split at h
  ·rename_i t t2 x y hcb hts hys
   split at h
   ·rename_i e sz0 by0 z0 i off len cap sz l hT hx hy
    split at h
    ·rename_i ei cells hTe hl
     obtain ⟨⟨rfl,hl0,hs0,hll,hroom⟩,hk⟩ := h
     obtain ⟨dd,hu,hdd⟩ := (hE _ _ hT).desc
     cases dd <;> simp only [descOk] at hdd
     subst hdd
     have hsz := (hE _ _ hTe).size w
     have q1 := hf.eval E.T t x
     rw [hx] at q1
     have q2 := hf.eval E.T t2 y
     rw [hy] at q2
     obtain ⟨full,hrow,hfl,hfc,hlen,hml⟩ := slice_row (srep_v q2)
     have hl1 := hlen E.P w
     have hcl : ∀ x ∈ l,x.cells.length = ei.size := fun x hx => hrow.2.1 x hx
     have hmul : len * ei.size ≤ l.length * ei.size := Nat.mul_le_mul_right _ hll
     have hfull : full.length = l.length * ei.size := hrow.1
     obtain ⟨news,hnews⟩ : ∃ news,news = full.take (len * ei.size) := ⟨_,rfl⟩
     have hnl : news.length = len * ei.size := by rw [hnews,List.length_take]; omega
     have hcut : Reps G.com w ((l.take len).map AV.cells).flatten news := by
      have := hrow.flat.cut 0 (len * ei.size)
      rw [List.drop_zero,List.drop_zero] at this
      rw [flatten_take len hcl,hnews]; exact this
     have hpl : ∀ v ∈ news,plainV v = true := fun v hv => row_plain hrow hfl v (by rw [hnews] at hv; exact List.mem_of_mem_take hv)
     have hf1 : (Builtin.firstCells ei.size len (a.eval y)).run E.P w = .ok news.toArray w := by
      rcases rep_slice (srep_v q2) with ⟨rfl,_⟩ | ⟨b,off2,cap2,vs,e2,r1,r2,r3,r4,r5,r6⟩
      ·simp at hll; omega
      ·have h3 := hfc E.P w (fun _ => rfl)
       rw [e2] at h3 ⊢
       simp only [Builtin.firstCells] at h3 ⊢
       rw [loadCells_run _ (fun j hj => r5 j hj)] at h3
       rw [loadCells_run _ (fun j hj => r5 j (by omega))]
       simp only [Result.ok.injEq,and_true] at h3
       have h4 : full = (List.range (l.length * ei.size)).map vs := by
        have := congrArg Array.toList h3; simpa using this.symm
       rw [hnews,h4,← List.map_take,List.take_range,Nat.min_eq_left hmul]
     have hvx := rep_mslice_pos (srep_v q1) (.inl hl0)
     obtain ⟨_,_,_,_,old,eo,hbl,hrc⟩ := hf.mem i _ hl
     have hol : old.length = cells.length := hrc.1.symm
     have hst : (storeCells ⟨i,off,none⟩ news).run E.P w = .ok () (w.setBlock' i (.cells (writeAt old off news).toArray eo (0,0))) := by
      have := storeCells_run (P := E.P) (b := i) (off := off) (e := eo) news 0 w old hbl (by rw [hnl,hol]; omega) hpl
      simpa using this
     have hm := hf.mset hi hl (o := .cells (writeAt old off news).toArray eo (0,0)) (y := .cells (overlay cells off ((l.take len).map AV.cells).flatten)) (fun w' hw' hx' => ⟨_,_,hw',(hrc.overlay hcut off).ext hx'⟩) none (fun t ht => by cases ht)
     obtain ⟨h1,h2,h3⟩ := hm
     have h3' : FRelB G _ β R a { st with mem := upd st.mem i (some (.cells (overlay cells off ((l.take len).map AV.cells).flatten))) } := h3
     have hfin := h3'.put (d := some d) (x := .v (.int .i64 len)) (fun t ht => hd' t (by rw [hdst]; exact ht)) (.int _ _) (fun _ h => h.elim)
     have hmin : l.length.min len = len := Nat.min_eq_right hll
     have hrun : (Builtin.copy_ #[t,t2] o.type #[a.eval x,a.eval y]).run E.P w = .ok (.int .i64 len) (w.setBlock' i (.cells (writeAt old off news).toArray eo (0,0))) := by
      rw [hvx]
      simp [Builtin.copy_,Sem.run_bind,run_underlying hu,Result.andThen_ok,hl1,hsz,hf1,hst,goInt,hmin]
     have hexec : (execOp a.eval o).run E.P w = .ok (.value (.int .i64 len)) (w.setBlock' i (.cells (writeAt old off news).toArray eo (0,0))) := by
      have e1 : c.argTypes = #[t,t2] := by apply Array.ext'; simp [hts]
      have e2 : c.args.map a.eval = #[a.eval x,a.eval y] := by apply Array.ext'; rw [Array.toList_map,hys]; rfl
      unfold execOp
      simp only [hop,resolve,hcb,Sem.run_bind,Sem.run_pure,Result.andThen_ok,invoke]
      rw [e1,e2]
      simp [builtin,hrun]
     refine oper_in (fun c hc => by rw [hop] at hc; cases hc) ?_
     rw [hexec]
     have hnn := hn _ _ G _ h1 h2 ⟨β,R,hfin⟩ (by rw [put_size]; exact hs) hk
     show next (a.put o.dst _) _
     rw [hdst]
     exact hnn
    ·exact h.elim
   ·exact h.elim
  ·exact h.elim
 ·exact h.elim
theorem acut_at_melt (k : Nat) (hE : EnvOk E) {V : Oper → (St → Prop) → St → Prop}
  (hV : ∀ {o : Oper} {K : St → Prop} {st : St},V o K st → dstOk n o = true → ∀ {G : Gh} {w : World} {a : Act},Inv G w → FRel G w a st → a.tmps.size = n → ∀ {r : Option Nat} {next : Act → World → Prop} {Q : Exit → Act → World → Prop},
   (∀ a' w' G' st',Ext G w G' w' → Inv G' w' → FRel G' w' a' st' → a'.tmps.size = n → K st' → next a' w') → o.wpIn (fen r) 0 E.P a w next Q)
  {ops : Array Oper} {K : St → Prop} {α : Type} {o : Oper} {post : List Oper} (hops : ops.toList.drop k = o :: post) (hg : o.guard = none) (I : α → Head) (J : α → Prop) (b sz : α → Nat) (es tail : α → List AV) (hok : ∀ x,(I x).ok = true)
  (h : vcOps E ops (ops.toList.take k) (V o (vcOps E ops post (fun st' => ∃ x,J x ∧ (∃ c,st'.mem = c ∧ c (b x) = some (.cells (((es x).map AV.cells).flatten ++ tail x)) ∧ ∀ e ∈ es x,e.cells.length = sz x ∧ e.cells.all flat = true) ∧ Fits (st'.melt (b x) (sz x) (es x)) (I x)))) st)
  (hk : ∀ x,J x → K (I x).st) : ACut E n ops K st .mk := by
 refine ⟨fun hc id r hrd G w a hi hf hs => wpIn_region_list ?_⟩
 have hops2 : ops.toList = ops.toList.take k ++ o :: post := by rw [← hops,List.take_append_drop]
 generalize ops.toList.take k = pre at *
 rw [hops2] at hc ⊢
 simp only [List.all_append,List.all_cons,Bool.and_eq_true] at hc
 obtain ⟨c1,c2,c3⟩ := hc
 refine vcOps_pre hE pre h c1 hi hf hs fun a1 w1 G1 st1 x1 i1 f1 s1 k1 => ?_
 unfold wpListIn
 rw [if_pos (by simp [Region.wanted,hg])]
 refine hV k1 c2 i1 f1 s1 fun a2 w2 G2 st2 x2 i2 f2 s2 k2 => ?_
 refine vcOps_sound hE post k2 c3 i2 f2 s2 ?_
 rintro a3 w3 G3 st3 x3 i3 ⟨β,R,f3⟩ s3 ⟨x,hj,⟨c,rfl,hc1,hc2⟩,hfit⟩
 obtain ⟨y1,j1,g1⟩ := f3.melt i3 hc1 hc2
 exact ⟨_,(I x).st,(((x1.trans x2).trans x3).trans y1).toL,j1,FRel.weaken ⟨β,R,g1⟩ hfit (hok x),s3,rfl,hk x hj⟩
end
end Go.Proofs.YtdmejgfcaacdoaaGreat.Abs
