/- Lemmas for the statements of this seat (X29): they hold without conditions beyond those that each one states. -/
import Derived.Shelf.Strings.Builder1
import Derived.Test.YtdmejgfcaacdoaaGreatX13
import Derived.WalkKit
import Derived.Test.YtdmejgfcaacdoaaGreatX17
import Derived.Shelf.Strings.FieldsFuncGrows
/- Contracts: what writes to a builder,as concrete walks. -/
namespace Go.Proofs.YtdmejgfcaacdoaaGreat.Abs
set_option linter.unusedSimpArgs false
open Go Go.RowKit Go.Proofs
set_option maxHeartbeats 4000000
set_option maxRecDepth 1000000
theorem bld_size : ∃ j,Tryz.prog.info? 225 = some j ∧ j.size = 2 := ⟨Tryz.t225,by kernel_rfl,rfl⟩
theorem bld_lies : liesAt Tryz.prog Tryz.prog.depth 225 (2 / Tryz.prog.cellsOf 225) 0 225 1 = true := by kernel_rfl
theorem byte_info : ∃ i,Tryz.prog.info? 5 = some i ∧ i.zero = some (.int .u8 0) ∧ i.size = 1 ∧ i.bytes = 1 := ⟨Tryz.t5,by kernel_rfl,rfl,rfl,rfl⟩
theorem bcheck_fresh (b : Nat) (w : World) (h0 : w.cell? ⟨b,0,none⟩ = some (.pointer none)) (hsh : w.shape? b = some (225,2)) (hfz : w.frozen? ⟨b,0,none⟩ = false) :
  Calls Tryz.prog 171 #[.pointer (some ⟨b,0,none⟩)] w fun e w' => e = .returned (.tuple #[]) ∧ w' = w.setCell ⟨b,0,none⟩ (.pointer (some ⟨b,0,none⟩)) := by
 obtain ⟨j,hj,hjs⟩ := bld_size
 go_enter Tryz.func171,Tryz.ntmps171
 go_wp2
 rw [Lib.run_to_unsafe w ⟨b,0,none⟩ Tryz.underlying223 Tryz.underlying268 hj (by rw [hjs]; decide) hsh (Nat.zero_lt_succ 1)]
 simp only [Result.andThen]
 rw [Oper.upon_value]
 go_wp2
 rw [run_callFunc_extern Tryz.func183 (by kernel_rfl) (by kernel_rfl) (by kernel_rfl) (e := Extern.AbiNoEscape.same) (by kernel_rfl),Lib.run_noEscape]
 simp only [Result.andThen]
 rw [Oper.upon_value]
 go_wp2
 rw [Lib.run_from_unsafe w ⟨b,0,none⟩ Tryz.underlying268 Tryz.underlying223 hj hsh bld_lies]
 simp only [Result.andThen]
 rw [Oper.upon_value]
 go_wp2
 go_end0
 exact ⟨rfl,rfl⟩
theorem bcheck_used (b : Nat) (w : World) (h0 : w.cell? ⟨b,0,none⟩ = some (.pointer (some ⟨b,0,none⟩))) :
  Calls Tryz.prog 171 #[.pointer (some ⟨b,0,none⟩)] w fun e w' => e = .returned (.tuple #[]) ∧ w' = w := by
 obtain ⟨j,hj,hjs⟩ := bld_size
 go_enter Tryz.func171,Tryz.ntmps171
 go_wp2
 rw [Lib.run_neq_ptr_same w ⟨b,0,none⟩ Tryz.underlying223 hj]
 simp only [Result.andThen]
 rw [Oper.upon_value]
 go_wp2
 go_end0
 exact ⟨rfl,rfl⟩
abbrev Bld (B b : Nat) (bs : List Value) (w : World) : Prop := Lib.IsBuilder 225 5 B b bs w
theorem bcheck_c (B b : Nat) (bs : List Value) (w : World) (h : Bld B b bs w) :
  Calls Tryz.prog 171 #[.pointer (some ⟨b,0,none⟩)] w fun e w' => e = .returned (.tuple #[]) ∧ Lib.BuilderAt 225 5 B b (.pointer (some ⟨b,0,none⟩)) bs w' ∧ Below B w w' := by
 rcases h with h | h
 ·refine (bcheck_fresh b w h.cell0 h.shape h.frozen0).mono ?_
  rintro e w' ⟨rfl,rfl⟩
  exact ⟨rfl,h.used _,(Below.refl B w).setCell (p := ⟨b,0,none⟩) h.1 _⟩
 ·refine (bcheck_used b w h.cell0).mono ?_
  rintro e w' ⟨rfl,rfl⟩
  exact ⟨rfl,h,Below.refl B _⟩
theorem writeByte_c (B b : Nat) (bs : List Value) (c : Int) (w : World) (h : Bld B b bs w) (hlen : bs.length + 1 ≤ 1000000) (hBw : B ≤ w.heap.size) :
  Calls Tryz.prog 138 #[.pointer (some ⟨b,0,none⟩),.int .u8 c] w fun e w' => e = .returned .nilIface ∧ Bld B b (bs ++ [.int .u8 c]) w' ∧ Below B w w' := by
 obtain ⟨i0,hi,hz0,hz1,hz2⟩ := byte_info
 go_enter Tryz.func138,Tryz.ntmps138
 go_wp2_with (go_at_call 171; refine (bcheck_c B b bs _ h).mono ?_)
 rintro e w1 ⟨rfl,h1,hb1⟩
 obtain ⟨hB,v,hbk,hown,hne⟩ := h1
 have hsz := hb1.size
 have c1 : w1.cell? ⟨b,1,none⟩ = some v := by rw [Lib.cell_of_heap hbk]; rfl
 have hlt := Lib.BuilderAt.lt ⟨hB,v,hbk,hown,hne⟩
 go_wp2_with (at_builtin; refine wpList_append_own _ rfl _ _ 59 rfl B 5 i0 (.int .u8 0) 1 1 Tryz.underlying59 hi hz0 hz1 hz2 rfl (by decide) _ _ _ rfl (hown.alloc _) ⟨w1.heap.size,0,none⟩ 1 1 [.int .u8 c] rfl rfl ?c1 ?c2 ?c3 ?c4 ?c5 ?_)
 ·intro j u hj
  cases j with
  | zero => cases hj; simp [Addr.add]
  | succ j => cases hj
 ·intro u hu
  rw [List.mem_singleton.1 hu]; rfl
 ·unfold maxLen; omega
 ·omega
 ·simp; omega
 ·intro v' w2 hown' hgrow hnil
  have hb2 : w2.heap[b]? = some (.cells #[.pointer (some ⟨b,0,none⟩),v] 225 (0,0)) := by
   rw [hgrow.block b (by simp; omega) (fun e => hne e.symm),Lib.alloc_old w1 _ b hlt]
   exact hbk
  have d1 : w2.cell? ⟨b,1,none⟩ = some v := by rw [Lib.cell_of_heap hb2]; rfl
  have f1 : w2.frozen? ⟨b,1,none⟩ = false := Lib.frozen_of_heap hb2 1
  obtain ⟨g,cap,rfl⟩ : ∃ g cap,v' = .slice (some ⟨g,0,none⟩) (bs.length + 1) cap := by
   rcases hown'.2 with ⟨_,h0⟩ | ⟨g,cap,_,hv,_⟩
   ·omega
   ·exact ⟨g,cap,hv⟩
  have hlow : ∀ k,v.ownBlock = some k → B ≤ k := fun k hk => by
   rcases hown.2 with ⟨rfl,_⟩ | ⟨g',cap',_,rfl,hg,_⟩
   ·cases hk
   ·cases hk; exact hg
  go_wp2
  go_ret
  refine ⟨rfl,.inr ?_,((hb1.alloc (by omega) _).grown hgrow (by simp; omega) hlow).setCell (p := ⟨b,1,none⟩) hB _⟩
  exact Lib.BuilderAt.put hB hb2 (bs' := bs ++ [.int .u8 c]) (by simpa using hown') (by decide)
theorem writeString_c (B b : Nat) (bs : List Value) (s : ByteArray) (w : World) (h : Bld B b bs w) (hlen : bs.length + s.size ≤ 1000000) (hBw : B ≤ w.heap.size) :
  Calls Tryz.prog 139 #[.pointer (some ⟨b,0,none⟩),.string s] w fun e w' => e = .returned (.tuple #[.int .i64 s.size,.nilIface]) ∧ Bld B b (bs ++ Lib.strCells s) w' ∧ Below B w w' := by
 obtain ⟨i0,hi,hz0,hz1,hz2⟩ := byte_info
 go_enter Tryz.func139,Tryz.ntmps139
 go_wp2_with (go_at_call 171; refine (bcheck_c B b bs _ h).mono ?_)
 rintro e w1 ⟨rfl,h1,hb1⟩
 obtain ⟨hB,v,hbk,hown,hne⟩ := h1
 have hsz := hb1.size
 have c1 : w1.cell? ⟨b,1,none⟩ = some v := by rw [Lib.cell_of_heap hbk]; rfl
 have hlt := Lib.BuilderAt.lt ⟨hB,v,hbk,hown,hne⟩
 go_wp2_with (at_builtin; refine Lib.wpList_append_own_string _ rfl _ _ 59 9 rfl B 5 i0 Tryz.underlying59 Tryz.underlying9 hi hz0 hz1 hz2 _ _ _ rfl hown s rfl ?c3 ?c4 ?c5 ?_)
 ·unfold maxLen; omega
 ·omega
 ·omega
 ·intro v' w2 hown' hgrow hnil
  have hb2 : w2.heap[b]? = some (.cells #[.pointer (some ⟨b,0,none⟩),v] 225 (0,0)) := by
   rw [hgrow.block b hlt (fun e => hne e.symm)]
   exact hbk
  have d1 : w2.cell? ⟨b,1,none⟩ = some v := by rw [Lib.cell_of_heap hb2]; rfl
  have f1 : w2.frozen? ⟨b,1,none⟩ = false := Lib.frozen_of_heap hb2 1
  obtain ⟨ao,n',cap,rfl⟩ : ∃ ao n' cap,v' = .slice ao n' cap := by
   rcases hown'.2 with ⟨hv,_⟩ | ⟨g,cap,_,hv,_⟩
   ·exact ⟨_,_,_,hv⟩
   ·exact ⟨_,_,_,hv⟩
  have hlow : ∀ k,v.ownBlock = some k → B ≤ k := fun k hk => by
   rcases hown.2 with ⟨rfl,_⟩ | ⟨g',cap',_,rfl,hg,_⟩
   ·cases hk
   ·cases hk; exact hg
  go_wp2
  go_ret2
  refine ⟨rfl,.inr ?_,(hb1.grown hgrow (by omega) hlow).setCell (p := ⟨b,1,none⟩) hB _⟩
  exact Lib.BuilderAt.put hB hb2 (bs' := bs ++ Lib.strCells s) (by simpa [Lib.strCells_length] using hown') (by decide)
def lays169_ren : Go.Shelf.Ren := ⟨fun | 169 => 140 | n => n,fun | 70 => 223 | 9 => 9 | 0 => 0 | 72 => 225 | 37 => 59 | 127 => 265 | 3 => 3 | 5 => 5 | n => n,fun | n => n⟩
theorem lays169 : Go.Proofs.Lays.n169 Tryz.prog lays169_ren := {
 mixed := by kernel_rfl
 f169 := Tryz.func140.trans (congrArg some (by kernel_rfl))
 t0 := Tryz.underlying0
 a0 := Tryz.isAgg0
 z0 := Tryz.sizeOf0
 v0 := Tryz.zeroValue0
 t3 := Tryz.underlying3
 a3 := Tryz.isAgg3
 z3 := Tryz.sizeOf3
 v3 := Tryz.zeroValue3
 t9 := Tryz.underlying9
 a9 := Tryz.isAgg9
 z9 := Tryz.sizeOf9
 v9 := Tryz.zeroValue9
 t37 := Tryz.underlying59
 a37 := Tryz.isAgg59
 z37 := Tryz.sizeOf59
 v37 := Tryz.zeroValue59
 t70 := Tryz.underlying223
 a70 := Tryz.isAgg223
 z70 := Tryz.sizeOf223
 v70 := Tryz.zeroValue223
 t72 := Tryz.underlying225
 a72 := Tryz.isAgg225
 z72 := Tryz.sizeOf225
 v72 := Tryz.zeroValue225
 t127 := Tryz.underlying265
 a127 := Tryz.isAgg265
 z127 := Tryz.sizeOf265
 v127 := Tryz.zeroValue265 }
theorem bldExtra : Builder.Extra Tryz.prog lays169_ren := {
 sizeBuilder := by kernel_rfl
 liesBuilder := by kernel_rfl
 t5 := Tryz.underlying5
 a5 := Tryz.isAgg5
 z5 := Tryz.sizeOf5
 v5 := Tryz.zeroValue5
 infoByte := by kernel_rfl
 cellsByte := by kernel_rfl
 sizeByte := by kernel_rfl
 neB5 := by decide }
def lays229_ren : Go.Shelf.Ren := ⟨fun | 229 => 89 | n => n,fun | 9 => 9 | 40 => 180 | 31 => 30 | 152 => 232 | 3 => 3 | 0 => 0 | 4 => 4 | 21 => 21 | 154 => 234 | n => n,fun | n => n⟩
theorem lays229 : Go.Proofs.Lays.n229 Tryz.prog lays229_ren := {
 mixed := by kernel_rfl
 f229 := Tryz.func89.trans (congrArg some (by kernel_rfl))
 t0 := Tryz.underlying0
 a0 := Tryz.isAgg0
 z0 := Tryz.sizeOf0
 v0 := Tryz.zeroValue0
 t3 := Tryz.underlying3
 a3 := Tryz.isAgg3
 z3 := Tryz.sizeOf3
 v3 := Tryz.zeroValue3
 t4 := Tryz.underlying4
 a4 := Tryz.isAgg4
 z4 := Tryz.sizeOf4
 v4 := Tryz.zeroValue4
 t9 := Tryz.underlying9
 a9 := Tryz.isAgg9
 z9 := Tryz.sizeOf9
 v9 := Tryz.zeroValue9
 t21 := Tryz.underlying21
 a21 := Tryz.isAgg21
 z21 := Tryz.sizeOf21
 v21 := Tryz.zeroValue21
 t31 := Tryz.underlying30
 a31 := Tryz.isAgg30
 z31 := Tryz.sizeOf30
 v31 := Tryz.zeroValue30
 t40 := Tryz.underlying180
 a40 := Tryz.isAgg180
 z40 := Tryz.sizeOf180
 v40 := Tryz.zeroValue180
 t152 := Tryz.underlying232
 a152 := Tryz.isAgg232
 z152 := Tryz.sizeOf232
 v152 := Tryz.zeroValue232
 t154 := Tryz.underlying234
 a154 := Tryz.isAgg234
 z154 := Tryz.sizeOf234
 v154 := Tryz.zeroValue234 }
def textStep (w : Int) (l : List ByteArray) (x : List UInt8 × Int) (i : Nat) : List UInt8 × Int :=
 if 0 < i ∧ ((l[i]!).size : Int) < x.2 then (x.1 ++ (32 :: (l[i]!).data.toList),x.2 - ((l[i]!).size + 1))
 else if 0 < i then (x.1 ++ (10 :: (l[i]!).data.toList),w - (l[i]!).size) else (x.1 ++ (l[i]!).data.toList,w - (l[i]!).size)
def textTo (w : Int) (l : List ByteArray) (k : Nat) : List UInt8 × Int := (List.range k).foldl (textStep w l) ([],0)
theorem textTo_succ (w : Int) (l : List ByteArray) (k : Nat) : textTo w l (k + 1) = textStep w l (textTo w l k) k := by
 unfold textTo; rw [List.range_succ,List.foldl_append]; rfl
def shortB (l : List ByteArray) : Prop := l.length ≤ 15 ∧ ∀ s ∈ l,s.size ≤ 8
theorem textTo_le {w : Int} {l : List ByteArray} (h : shortB l) (h0 : 0 ≤ w) (h1 : w ≤ 1000) : ∀ k,k ≤ l.length → (textTo w l k).1.length ≤ 9 * k ∧ -8 ≤ (textTo w l k).2 ∧ (textTo w l k).2 ≤ 1000
 | 0,_ => by
  have e : textTo w l 0 = ([],0) := rfl
  rw [e]; exact ⟨Nat.zero_le _,by show (-8 : Int) ≤ 0; decide,by show (0 : Int) ≤ 1000; decide⟩
 | k + 1,hk => by
  obtain ⟨a,b,c⟩ := textTo_le h h0 h1 k (by omega)
  have hs : (l[k]!).size ≤ 8 := h.2 _ (by rw [getElem!_pos l k (by omega)]; exact List.getElem_mem _)
  have hl : (l[k]!).data.toList.length = (l[k]!).size := (size_len _).symm
  rw [textTo_succ]
  unfold textStep
  split
  ·rw [List.length_append,List.length_cons]; dsimp only; omega
  ·split
   ·rw [List.length_append,List.length_cons]; dsimp only; omega
   ·rw [List.length_append]; dsimp only; omega
theorem bytes_app (A : List UInt8) (c : UInt8) (s : ByteArray) : Lib.byteCells A ++ [.int .u8 (c.toNat : Int)] ++ Lib.strCells s = Lib.byteCells (A ++ (c :: s.data.toList)) := by simp [Lib.byteCells,Lib.strCells]
theorem bytes_app0 (A : List UInt8) (s : ByteArray) : Lib.byteCells A ++ Lib.strCells s = Lib.byteCells (A ++ s.data.toList) := by simp [Lib.byteCells,Lib.strCells]
theorem text_walk (wd : Int) (l : List ByteArray) (hl : shortB l) (h0 : 0 ≤ wd) (h1 : wd ≤ 1000) (w : World) (a : Option Addr) (cap : Nat) (hc : ∀ k,k < l.length → ∃ b off,a = some ⟨b,off,none⟩ ∧ b < w.heap.size ∧ w.cell? ⟨b,off + k,none⟩ = some (.string l[k]!)) (hcap : l.length ≤ cap) :
  Calls Tryz.prog 88 #[.int .i64 wd,.slice a l.length cap] w fun e w' => e = .returned (.string ⟨((textTo wd l l.length).1 ++ (if l = [] then [] else [10])).toArray⟩) ∧ Below w.heap.size w w' := by
 have h15 := hl.1
 go_enter Tryz.func88,Tryz.ntmps88
 go_wp2
 go_loopw [6,11] (fun v i wr => ∃ k : Nat,k ≤ l.length ∧ i = .int .i64 k ∧ v = .int .i64 (textTo wd l k).2 ∧ Bld w.heap.size w.heap.size (Lib.byteCells (textTo wd l k).1) wr ∧ Below w.heap.size w wr) (fun _ i _ => l.length - (intOf i).toNat)
 case atStart => exact ⟨0,Nat.zero_le _,rfl,rfl,Lib.fresh_isBuilder _ _ w,(Below.refl _ w).alloc (Nat.le_refl _) _⟩
 case round =>
  obtain ⟨k,hk,rfl,rfl,hI,hbw⟩ := hrel
  obtain ⟨t1,t2,t3⟩ := textTo_le hl h0 h1 k hk
  have hsn := textTo_succ wd l k
  unfold textStep at hsn
  have hsz := hbw.size
  generalize hX : textTo wd l k = X at *
  by_cases hlt : k < l.length
  ·obtain ⟨b,off,rfl,hbl,hcell⟩ := hc k hlt
   have hcell2 : wr.cell? ⟨b,off + k,none⟩ = some (.string l[k]!) := by
    rw [hbw.cell (p := ⟨b,off + k,none⟩) hbl]; exact hcell
   have hsk : (l[k]!).size ≤ 8 := hl.2 _ (by rw [getElem!_pos l k hlt]; exact List.getElem_mem hlt)
   obtain ⟨sk,hske⟩ : ∃ s,s = l[k]! := ⟨_,rfl⟩
   rw [← hske] at hcell2 hsk hsn
   clear hske hc hcell
   have hbc : (Lib.byteCells X.1).length = X.1.length := Lib.byteCells_length _
   have hskl : (Lib.strCells sk).length = sk.size := Lib.strCells_length _
   by_cases hk0 : 0 < k
   ·by_cases hr : (sk.size : Int) < X.2
    ·rw [if_pos ⟨hk0,hr⟩] at hsn
     go_wp2_with (go_at_call 138; refine (writeByte_c w.heap.size w.heap.size _ _ _ hI (by omega) hsz).mono ?_)
     all_goals try (exfalso; omega)
     all_goals
      (first | rintro e W1 rfl hI2 hb2 | rintro e W1 ⟨rfl,hI2,hb2⟩)
      have hsz2 := hb2.size
      go_wp2_with (go_at_call 139; refine (writeString_c w.heap.size w.heap.size _ sk _ hI2 (by rw [List.length_append,hbc]; simp; omega) (by omega)).mono ?_)
      (first | rintro e W2 rfl hI3 hb3 | rintro e W2 ⟨rfl,hI3,hb3⟩)
      go_wp2
      go_roundw
      case rel =>
       refine ⟨k + 1,by omega,by simp,by rw [hsn],?_,(hbw.trans hb2).trans hb3⟩
       rw [hsn]
       dsimp only
       rw [← bytes_app X.1 32]
       exact hI3
      case measure => simp [intOf]; omega
    ·rw [if_neg (fun e => hr e.2),if_pos hk0] at hsn
     go_wp2_with (go_at_call 138; refine (writeByte_c w.heap.size w.heap.size _ _ _ hI (by omega) hsz).mono ?_)
     all_goals try (exfalso; omega)
     all_goals
      (first | rintro e W1 rfl hI2 hb2 | rintro e W1 ⟨rfl,hI2,hb2⟩)
      have hsz2 := hb2.size
      go_wp2_with (go_at_call 139; refine (writeString_c w.heap.size w.heap.size _ sk _ hI2 (by rw [List.length_append,hbc]; simp; omega) (by omega)).mono ?_)
      (first | rintro e W2 rfl hI3 hb3 | rintro e W2 ⟨rfl,hI3,hb3⟩)
      go_wp2
      go_roundw
      case rel =>
       refine ⟨k + 1,by omega,by simp,by rw [hsn],?_,(hbw.trans hb2).trans hb3⟩
       rw [hsn]
       dsimp only
       rw [← bytes_app X.1 10]
       exact hI3
      case measure => simp [intOf]; omega
   ·rw [if_neg (fun e => hk0 e.1),if_neg hk0] at hsn
    go_wp2_with (first | (go_at_call 138; exfalso; omega) | (go_at_call 139; refine (writeString_c w.heap.size w.heap.size _ sk _ hI (by rw [hbc]; omega) hsz).mono ?_))
    all_goals try (exfalso; omega)
    all_goals
      (first | rintro e W1 rfl hI2 hb2 | rintro e W1 ⟨rfl,hI2,hb2⟩)
      go_wp2
      go_roundw
      case rel =>
       refine ⟨k + 1,by omega,by simp,by rw [hsn],?_,hbw.trans hb2⟩
       rw [hsn]
       dsimp only
       rw [← bytes_app0 X.1]
       exact hI2
      case measure => simp [intOf]; omega
  ·have hke : k = l.length := by omega
   subst hke
   have hbc : (Lib.byteCells X.1).length = X.1.length := Lib.byteCells_length _
   cases l with
   | nil =>
    go_wp2_with (go_at_call 140; refine (Any.Builder_String_any lays169 bldExtra w.heap.size w.heap.size X.1 _ hI hsz).mono ?_)
    (first | rintro e W1 rfl hb2 | rintro e W1 ⟨rfl,hb2⟩)
    go_wp2
    go_ret
    refine ⟨?_,hbw.trans hb2⟩
    show Ending.returned (Value.string ⟨X.1.toArray⟩) = _
    rw [← hX]
    rfl
   | cons x l =>
    go_wp2_with (go_at_call 138; refine (writeByte_c w.heap.size w.heap.size _ _ _ hI (by omega) hsz).mono ?_)
    (first | rintro e W1 rfl hI2 hb2 | rintro e W1 ⟨rfl,hI2,hb2⟩)
    have hsz2 := hb2.size
    have e10 : Lib.byteCells X.1 ++ [.int .u8 10] = Lib.byteCells (X.1 ++ [10]) := by simp [Lib.byteCells]
    rw [e10] at hI2
    go_wp2_with (go_at_call 140; refine (Any.Builder_String_any lays169 bldExtra w.heap.size w.heap.size _ _ hI2 (by omega)).mono ?_)
    (first | rintro e W2 rfl hb3 | rintro e W2 ⟨rfl,hb3⟩)
    go_wp2
    go_ret
    refine ⟨?_,(hbw.trans hb2).trans hb3⟩
    show Ending.returned (Value.string ⟨(X.1 ++ [10]).toArray⟩) = _
    rw [← hX]
    rfl
theorem text_rest (w : Int) (L : List ByteArray) : ∀ (d k : Nat),k + d = L.length → 1 ≤ k → (textTo w L L.length).1 = (textTo w L k).1 ++ (textGo w (textTo w L k).2 (L.drop k)).data.toList
 | 0,k,h,_ => by
  have e : L.drop k = [] := List.drop_eq_nil_of_le (by omega)
  rw [← h,Nat.add_zero,e]
  show _ = _ ++ []
  rw [List.append_nil]
 | d + 1,k,h,h1 => by
  have ih := text_rest w L d (k + 1) (by omega) (by omega)
  have hk : k < L.length := by omega
  rw [ih,textTo_succ]
  have hd : L.drop k = L[k]! :: L.drop (k + 1) := by rw [List.drop_eq_getElem_cons hk,getElem!_pos L k hk]
  have hg : ∀ (r : Int) (s : ByteArray) (l : List ByteArray),textGo w r (s :: l) = if (s.size : Int) < r then ⟨#[32]⟩ ++ s ++ textGo w (r - (s.size + 1)) l else ⟨#[10]⟩ ++ s ++ textGo w (w - s.size) l := fun _ _ _ => rfl
  rw [hd,hg]
  unfold textStep
  generalize L[k]! = s
  by_cases q : (s.size : Int) < (textTo w L k).2
  ·rw [if_pos ⟨by omega,q⟩,if_pos q]
   simp [ByteArray.data_append,List.append_assoc]
  ·rw [if_neg (fun e => q e.2),if_pos (by omega),if_neg q]
   simp [ByteArray.data_append,List.append_assoc]
theorem text_bytes (w : Int) (l : List ByteArray) : (⟨((textTo w l l.length).1 ++ (if l = [] then [] else [10])).toArray⟩ : ByteArray) = textOf w l := by
 cases l with
 | nil => rfl
 | cons s l =>
  have h := text_rest w (s :: l) l.length 1 (by simp; omega) (by omega)
  have h1 : textTo w (s :: l) 1 = (s.data.toList,w - s.size) := by
   show textStep w (s :: l) ([],0) 0 = _
   unfold textStep
   rw [if_neg (by simp),if_neg (by simp)]
   simp
  rw [h,h1,if_neg (by simp),textOf]
  dsimp only
  rw [List.drop_succ_cons,List.drop_zero]
  refine ByteArray.ext ?_
  simp [ByteArray.data_append]
end Go.Proofs.YtdmejgfcaacdoaaGreat.Abs
