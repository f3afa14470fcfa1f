/- Lemmas for the statements of this seat (X32): they hold without conditions beyond those that each one states. -/
import Derived.Test.YtdmejgfcaacdoaaGreatX25
import Derived.Test.YtdmejgfcaacdoaaGreatX27
import Derived.Test.YtdmejgfcaacdoaaGreatX28
import Derived.Test.YtdmejgfcaacdoaaGreatX30
import Derived.Test.YtdmejgfcaacdoaaGreatX31
import Derived.Test.YtdmejgfcaacdoaaGreatX16
import Derived.Test.YtdmejgfcaacdoaaGreatX12
import Derived.OpenShut
import Derived.ChangeOld
import Derived.ChangeArms
import Derived.Below
import Derived.Carry
import Derived.Deep.Slices
import Derived.SizedLaws
import Derived.ProofKit
import Derived.Handed
/- Contracts: the examples of the letters. -/
namespace Go.Proofs.YtdmejgfcaacdoaaGreat.Abs
set_option linter.unusedSimpArgs false
set_option maxHeartbeats 4000000
set_option maxRecDepth 100000
open Go Go.RowKit Go.Proofs
theorem letawake_c : PCall Tryz.prog 6 [] (.bool true) := by
 intro m
 have h0 := shelfX_c
 have w1 := words_c ⟨#[116,111,32,116,104,101,32,106,117,100,103,101,32,105,32,97,115,107,32,109,101,114,99,121]⟩ (by decide)
 rw [splitX] at w1
 have w2 := words_c ⟨#[116,111,32,106,117,100,103,101,32,105,32,97,115,107,32,102,111,114,32,109,101,114,99,121]⟩ (by decide)
 rw [splitY] at w2
 have w3 := words_c ⟨#[106,117,100,103,101]⟩ (by decide)
 rw [splitJudge] at w3
 have w4 := words_c ⟨#[109,101,114,99,121]⟩ (by decide)
 rw [splitMercy] at w4
 have w5 := words_c ⟨#[97,32,98,32,99]⟩ (by decide)
 rw [splitABC] at w5
 have w6 := words_c ⟨#[97]⟩ (by decide)
 rw [splitA] at w6
 have w7 := words_c ⟨#[98,32,99]⟩ (by decide)
 rw [splitBC] at w7
 have a1 := make_c shelfX shelfX_fit 0 [[wJudge],[wMercy]] (by intro r hr s hs; simp only [List.mem_cons,List.not_mem_nil,or_false] at hr; rcases hr with rfl | rfl <;> (rw [List.mem_singleton.1 hs]; decide))
 rw [xMake] at a1
 have a2 := letof_c shelfX shelfX_fit letABC letABC_fit
 rw [xOf] at a2
 have a3 := fillsX_c
 have a4 := write_c shelfX shelfX_fit letX letX_fit
 rw [xWrite] at a4
 have a5 := read_c shelfX shelfX_fit textX (by decide)
 rw [xRead] at a5
 have a6 := fewest_c letX letY letX_fit letY_fit
 rw [xFewest] at a6
 have a7 := marksX_c
 have a8 := applyX_c
 have a9 := mend_c shelfX shelfX_fit 2 letX letX_fit
 rw [xMend] at a9
 have b1 := near_c shelfX shelfX_fit letX letX_fit
 rw [xNearest] at b1
 have b2 := read_c shelfX shelfX_fit textBad (by decide)
 rw [xBad] at b2
 have b3 := read_c shelfX shelfX_fit textWide (by decide)
 rw [xWide] at b3
 have b4 := mend_c shelfX shelfX_fit 3 letX letX_fit
 rw [xDown] at b4
 have s1 := same_c letX letX
 have s2 := same_c letY letY
 rw [decide_eq_true rfl] at s1 s2
 have s3 := intsT_c [2]
 have s4 := sames_c [[⟨#[97]⟩],[⟨#[98]⟩,⟨#[99]⟩]] [[⟨#[97]⟩],[⟨#[98]⟩,⟨#[99]⟩]]
 rw [decide_eq_true rfl] at s4
 have s5 := equalM_c marksX
 simp only [shelfA,shelfL,rowsW,strs,marksA,ints] at h0 w1 w2 w3 w4 w5 w6 w7 a1 a2 a3 a4 a5 a6 a7 a8 a9 b1 b2 b3 b4 s1 s2 s3 s4 s5
 simp only [List.map_cons,List.map_nil] at a1 a2 a3 w3 w4 w6 w7 s3 s4
 simp only [strs,List.map_cons,List.map_nil] at a1 a3 s4
 simp only [textX] at a4
 (refine acall_intro (E := envC (modeAt [1] []) false []) (envCOk _ _ _) rfl Tryz.func6 rfl Tryz.call6 (by kernel_rfl) (by simp [Tryz.ntmps6]) ?_; simp only [Tryz.f6];  simp(maxSteps:=9^9)only[↓VX,VQ,seval])
 (refine ACall.pure (h0) ?_; try simp(maxSteps:=9^9)only[↓VX,VQ,seval])
 (refine ACall.pure (w1) ?_; try simp(maxSteps:=9^9)only[↓VX,VQ,seval])
 (refine ACall.pure (w2) ?_; try simp(maxSteps:=9^9)only[↓VX,VQ,seval])
 (refine adraw (by first | exact envOk _ | exact envCOk _ _ _) mixed [⟨false,false,0⟩,⟨false,false,0⟩,⟨false,false,0⟩,⟨false,false,0⟩,⟨false,false,0⟩,⟨false,false,0⟩,⟨false,false,0⟩,⟨false,false,0⟩,⟨false,false,0⟩,⟨false,false,0⟩] (by kernel_rfl) ?_; show vcOpsD _ _ _ (_ :: _) _ _)
 simp(maxSteps:=9^9)only[↓VX,VQ,seval]
 (refine ⟨_,.inl (w3),?_⟩; try simp(maxSteps:=9^9)only[↓VX,VQ,seval])
 (refine ⟨_,.inl (w4),?_⟩; try simp(maxSteps:=9^9)only[↓VX,VQ,seval])
 (refine ⟨_,.inl (a1),?_⟩; try simp(maxSteps:=9^9)only[↓VX,VQ,seval])
 (refine adraw (by first | exact envOk _ | exact envCOk _ _ _) mixed [⟨false,false,0⟩,⟨false,false,0⟩,⟨false,false,0⟩,⟨false,false,0⟩,⟨false,false,0⟩,⟨false,false,0⟩,⟨false,false,0⟩,⟨false,false,0⟩] (by kernel_rfl) ?_; show vcOpsD _ _ _ (_ :: _) _ _)
 simp(maxSteps:=9^9)only[↓VX,VQ,seval]
 (refine ⟨_,.inl (w5),?_⟩; try simp(maxSteps:=9^9)only[↓VX,VQ,seval])
 (refine ⟨_,.inl (a2),?_⟩; try simp(maxSteps:=9^9)only[↓VX,VQ,seval])
 (refine adraw (by first | exact envOk _ | exact envCOk _ _ _) mixed [⟨false,false,0⟩,⟨false,false,0⟩,⟨false,false,0⟩,⟨false,false,0⟩,⟨false,false,0⟩,⟨false,false,0⟩,⟨false,false,0⟩,⟨false,false,0⟩,⟨false,false,0⟩,⟨false,false,0⟩] (by kernel_rfl) ?_; show vcOpsD _ _ _ (_ :: _) _ _)
 simp(maxSteps:=9^9)only[↓VX,VQ,seval]
 (refine ⟨_,.inl (w5),?_⟩; try simp(maxSteps:=9^9)only[↓VX,VQ,seval])
 (refine ⟨_,.inl (a3),?_⟩; try simp(maxSteps:=9^9)only[↓VX,VQ,seval])
 (refine ACall.pure (a4) ?_; try simp(maxSteps:=9^9)only[↓VX,VQ,seval])
 (refine ACall.pure (a5) ?_; try simp(maxSteps:=9^9)only[↓VX,VQ,seval])
 (refine ACall.pure (a6) ?_; try simp(maxSteps:=9^9)only[↓VX,VQ,seval])
 (refine ACall.pure (a7) ?_; try simp(maxSteps:=9^9)only[↓VX,VQ,seval])
 (refine ACall.pure (a8) ?_; try simp(maxSteps:=9^9)only[↓VX,VQ,seval])
 (refine ACall.pure (a9) ?_; try simp(maxSteps:=9^9)only[↓VX,VQ,seval])
 (refine ACall.pure (b1) ?_; try simp(maxSteps:=9^9)only[↓VX,VQ,seval])
 (refine ACall.pure (b2) ?_; try simp(maxSteps:=9^9)only[↓VX,VQ,seval])
 (refine ACall.pure (b3) ?_; try simp(maxSteps:=9^9)only[↓VX,VQ,seval])
 (refine ACall.pure (b4) ?_; try simp(maxSteps:=9^9)only[↓VX,VQ,seval])
 simp(maxSteps:=9^9)only[↓VX,VQ,seval,List.append_eq,eq_self,decide_true,if_true]
 (refine ACall.pure (s1) ?_; try simp(maxSteps:=9^9)only[↓VX,VQ,seval])
 (refine ACall.pure (s3) ?_; try simp(maxSteps:=9^9)only[↓VX,VQ,seval])
 (refine ACall.pure (w6) ?_; try simp(maxSteps:=9^9)only[↓VX,VQ,seval])
 (refine ACall.pure (w7) ?_; try simp(maxSteps:=9^9)only[↓VX,VQ,seval])
 refine ACall.pure s4 ?_
 simp(maxSteps:=9^9)only[↓VX,VQ,seval,eq_self,decide_true,if_true]
 (refine ACall.pure (s1) ?_; try simp(maxSteps:=9^9)only[↓VX,VQ,seval])
 (refine ACall.pure (a7) ?_; try simp(maxSteps:=9^9)only[↓VX,VQ,seval])
 (refine ACall.pure (s5) ?_; try simp(maxSteps:=9^9)only[↓VX,VQ,seval])
 (refine ACall.pure (s2) ?_; try simp(maxSteps:=9^9)only[↓VX,VQ,seval])
 simp
end Go.Proofs.YtdmejgfcaacdoaaGreat.Abs
/- From an argument as the row reads it (DataW.trod) to the abstract value that stands for it: numbers,bools,strings,slices,structs and arrays of these. -/
namespace Go.Proofs.YtdmejgfcaacdoaaGreat.Abs
set_option linter.unusedSimpArgs false
open Go Go.RowKit
def packT (P : Program) (e : TypeId) (l : List AV) : AV := match P.underlying e with
 | some (.struct _) | some (.array _ _) => .agg l
 | _ => l.headD .top
inductive GoodT (P : Program) : TypeId → List AV → Prop
 | bool {t : TypeId} (ht : P.underlying t = some .bool) (b : Bool) : GoodT P t [.bool b]
 | int {t : TypeId} {k : IntKind} (ht : P.underlying t = some (.int k)) (n : Int) (hw : (Lit.int k n).wf = true) : GoodT P t [.int k n]
 | str {t : TypeId} (ht : P.underlying t = some .string) (s : ByteArray) (hs : s.size ≤ maxLen) : GoodT P t [.str s]
 | slice {t e : TypeId} (ht : P.underlying t = some (.slice e)) (n : Nat) (ls : Nat → List AV) (hn : n ≤ maxLen ∧ n * P.bytesOf e ≤ reachBytes) (h : ∀ i,i < n → GoodT P e (ls i)) :
   GoodT P t [.slice (P.cellsOf e) ((List.range n).map fun i => packT P e (ls i))]
 | struct {t : TypeId} {fs : Array Field} (ht : P.underlying t = some (.struct fs)) (ls : Nat → List AV) (h : ∀ i f,fs[i]? = some f → GoodT P f.type (ls i)) :
   GoodT P t ((List.range fs.size).flatMap ls)
 | array {t e : TypeId} {n : Nat} (ht : P.underlying t = some (.array n e)) (ls : Nat → List AV) (h : ∀ i,i < n → GoodT P e (ls i)) :
   GoodT P t ((List.range n).flatMap ls)
def offsOk (P : Program) (tot : Nat) : Nat → List Field → Bool
 | o,[] => o == tot
 | o,f :: fs => (f.offset == o) && offsOk P tot (o + P.cellsOf f.type) fs
def plainT (P : Program) : Nat → TypeId → Bool
 | 0,_ => false
 | k + 1,t => match P.underlying t with
  | some .bool | some (.int _) | some .string => P.cellsOf t == 1
  | some (.slice e) => (P.cellsOf t == 1 && decide (0 < P.cellsOf e)) && plainT P k e
  | some (.struct fs) => offsOk P (P.cellsOf t) 0 fs.toList && fs.toList.all fun f => plainT P k f.type
  | some (.array n e) => (P.cellsOf t == n * P.cellsOf e) && plainT P k e
  | _ => false
def comOf (w : World) (b : Nat) : Nat := match w.heap[b]? with
 | some (.cells cs _ _) => cs.size
 | _ => 0
theorem comOf_lt {w : World} {b i : Nat} {v : Value} (h : w.cell? ⟨b,i,none⟩ = some v) : i < comOf w b := by
 unfold World.cell? at h
 unfold comOf
 simp only at h
 cases hb : w.heap[b]? with
 | none => rw [hb] at h; simp at h
 | some o =>
  rw [hb] at h
  cases o with
  | cells cs e z =>
   simp only at h ⊢
   rcases Nat.lt_or_ge i cs.size with h1 | h1
   ·exact h1
   ·simp_all
  | _ => simp at h
theorem Reps.append' {com : Nat → Nat} {w : World} {l l' : List AV} {c c' : List Value} (h : Reps com w l c) (h' : Reps com w l' c') : Reps com w (l ++ l') (c ++ c') := by
 refine ⟨by simp [h.1,h'.1],fun i x v hx hv => ?_⟩
 by_cases hi : i < l.length
 ·rw [List.getElem?_append_left hi] at hx
  rw [List.getElem?_append_left (by rw [← h.1]; exact hi)] at hv
  exact h.2 i x v hx hv
 ·rw [List.getElem?_append_right (by omega)] at hx
  rw [List.getElem?_append_right (by rw [← h.1]; omega)] at hv
  rw [← h.1] at hv
  exact h'.2 _ x v hx hv
theorem plainT_struct {P : Program} {k : Nat} {t : TypeId} {fs : Array Field} (ht : P.underlying t = some (.struct fs)) (h : plainT P (k + 1) t = true) :
  offsOk P (P.cellsOf t) 0 fs.toList = true ∧ ∀ f ∈ fs.toList,plainT P k f.type = true := by
 unfold plainT at h
 rw [ht] at h
 simp only [Bool.and_eq_true,List.all_eq_true] at h
 exact h
theorem plainT_slice {P : Program} {k : Nat} {t e : TypeId} (ht : P.underlying t = some (.slice e)) (h : plainT P (k + 1) t = true) : (P.cellsOf t = 1 ∧ 0 < P.cellsOf e) ∧ plainT P k e = true := by
 unfold plainT at h
 rw [ht] at h
 simpa using h
theorem plainT_array {P : Program} {k n : Nat} {t e : TypeId} (ht : P.underlying t = some (.array n e)) (h : plainT P (k + 1) t = true) : P.cellsOf t = n * P.cellsOf e ∧ plainT P k e = true := by
 unfold plainT at h
 rw [ht] at h
 simpa using h
theorem fields_reps {P : Program} {com : Nat → Nat} {w : World} (ls : Nat → List AV) (cs : List Value) : ∀ (fs : List Field) (o j : Nat),offsOk P cs.length o fs = true →
  (∀ i f,fs[i]? = some f → Reps com w (ls (j + i)) ((cs.drop f.offset).take (P.cellsOf f.type))) →
  Reps com w ((List.range' j fs.length).flatMap ls) (cs.drop o) := by
 intro fs
 induction fs with
 | nil =>
  intro o j ho _
  simp [offsOk] at ho
  simp [ho,Reps]
 | cons f fs ih =>
  intro o j ho h
  simp only [offsOk,Bool.and_eq_true,beq_iff_eq] at ho
  have h0 := h 0 f rfl
  have ih' := ih (o + P.cellsOf f.type) (j + 1) ho.2 (fun i g hg => by
   have := h (i + 1) g (by simpa using hg)
   rw [show j + 1 + i = j + (i + 1) by omega]; exact this)
  rw [List.length_cons,List.range'_succ,List.flatMap_cons]
  have e : cs.drop o = (cs.drop o).take (P.cellsOf f.type) ++ cs.drop (o + P.cellsOf f.type) := by
   rw [← List.drop_drop,List.take_append_drop]
  rw [e]
  rw [ho.1] at h0
  exact h0.append' ih'
theorem elems_reps {com : Nat → Nat} {w : World} (ls : Nat → List AV) (cs : List Value) (z : Nat) : ∀ (n j : Nat),cs.length = (j + n) * z →
  (∀ i,i < n → Reps com w (ls (j + i)) ((cs.drop ((j + i) * z)).take z)) → Reps com w ((List.range' j n).flatMap ls) (cs.drop (j * z)) := by
 intro n
 induction n with
 | zero => intro j hl _; simp at hl; simp [← hl,Reps]
 | succ n ih =>
  intro j hl h
  have h0 := h 0 (by omega)
  have ih' := ih (j + 1) (by rw [hl]; congr 1; omega) (fun i hi => by
   have := h (i + 1) (by omega)
   rw [show j + 1 + i = j + (i + 1) by omega]; exact this)
  rw [List.range'_succ,List.flatMap_cons]
  have e : cs.drop (j * z) = (cs.drop (j * z)).take z ++ cs.drop ((j + 1) * z) := by
   rw [Nat.add_mul,Nat.one_mul,← List.drop_drop,List.take_append_drop]
  rw [e]
  exact h0.append' ih'
theorem GoodT.flat {P : Program} {t : TypeId} {l : List AV} (h : GoodT P t l) : l.all flat = true := by
 induction h with
 | bool _ _ => rfl
 | int _ _ _ => rfl
 | str _ _ _ => rfl
 | slice _ _ _ _ _ _ => rfl
 | struct ht ls h ih =>
  rename_i fs
  simp only [List.all_eq_true] at ih ⊢
  intro x hx
  simp only [List.mem_flatMap,List.mem_range] at hx
  obtain ⟨i,hi,hx⟩ := hx
  exact ih i fs[i] (by simp [hi]) x hx
 | array ht ls h ih =>
  simp only [List.all_eq_true] at ih ⊢
  intro x hx
  simp only [List.mem_flatMap,List.mem_range] at hx
  obtain ⟨i,hi,hx⟩ := hx
  exact ih i hi x hx
theorem GoodT.cells {P : Program} {t : TypeId} {l : List AV} (h : GoodT P t l) : (packT P t l).cells = l := by
 unfold packT
 cases h <;> rename_i ht <;> first | (rw [ht]; rfl) | skip
 all_goals (rename_i ht _ ; first | (rw [ht]; rfl) | skip)
 all_goals (rename_i ht _ ; first | (rw [ht]; rfl) | skip)
 all_goals (rename_i ht _ ; first | (rw [ht]; rfl) | skip)
section
variable {H : Type} {enc : TypeId × Value → H} {P : Program} {w : World}
theorem addrAdd {a : Addr} (h : a.spot = none) (n : Nat) : a.add n = ⟨a.block,a.off + n,none⟩ := by
 unfold Addr.add
 split
 ·rename_i h0; subst h0; cases a; simp_all
 ·rfl
theorem reps_one {com : Nat → Nat} {x : AV} {v : Value} (h : Rep com w x v) : Reps com w [x] [v] := ⟨rfl,fun i y u hx hv => by
 cases i with
 | zero => simp at hx hv; subst hx; subst hv; exact h
 | succ i => simp at hx⟩
theorem cell_spot {a : Addr} {v : Value} (h : w.cell? a = some v) : a.spot = none := by
 unfold World.cell? at h
 split at h
 ·cases hs : a.spot with
  | none => rfl
  | some s => rw [hs] at h; simp at h
 ·simp at h
theorem weightsAll_mem {e : TypeId} : ∀ {l : List (DataW H)} {d : DataW H},d ∈ l → ∀ n ∈ d.weights P e,n ∈ DataW.weightsAll P e l
 | [],_,h,_,_ => by cases h
 | x :: l,d,h,n,hn => by
  simp only [DataW.weightsAll,List.mem_append]
  rcases List.mem_cons.1 h with rfl | h
  ·exact .inl hn
  ·exact .inr (weightsAll_mem h n hn)
theorem open_good : ∀ (k fuel : Nat) (t : TypeId) (cs : List Value) (x : DataW H × List MemPlace),plainT P k t = true → DataW.trod enc P w 0 (fun _ => true) true fuel t cs = some x → (∀ n ∈ x.1.weights P t,n ≤ reachBytes) →
  ∃ l : List AV,GoodT P t l ∧ Reps (comOf w) w l cs ∧ l.length = P.cellsOf t := by
 intro k
 induction k with
 | zero => intro fuel t cs x hp; simp [plainT] at hp
 | succ k ih =>
  intro fuel t cs x hp h hwt
  have hp0 := hp
  unfold plainT at hp
  split at hp
  ·rename_i ht
   obtain ⟨b,rfl,rfl⟩ := DataW.trod_bool ht h
   exact ⟨_,.bool ht b,reps_one (.bool b),by simpa using (beq_iff_eq.1 hp).symm⟩
  ·rename_i q ht
   obtain ⟨n,rfl,rfl,hw⟩ := DataW.trod_int ht h
   exact ⟨_,.int ht n hw,reps_one (.int q n),by simpa using (beq_iff_eq.1 hp).symm⟩
  ·rename_i ht
   obtain ⟨s,rfl,rfl,hw⟩ := DataW.trod_string ht h
   exact ⟨_,.str ht s hw,reps_one (.str s),by simpa using (beq_iff_eq.1 hp).symm⟩
  ·rename_i e ht
   obtain ⟨⟨hz1,hz⟩,he⟩ := plainT_slice ht hp0
   rcases Deep.open_slice ht h with ⟨rfl,_⟩ | ⟨a,len,cap,m,n,D,Pl,rfl,_,hl,hm,hmm,hx0,hel⟩
   ·exact ⟨_,.slice ht 0 (fun _ => []) ⟨Nat.zero_le _,by rw [Nat.zero_mul]; exact Nat.zero_le _⟩ (fun i hi => absurd hi (Nat.not_lt_zero _)),reps_one (.nilslice _),by simpa using hz1.symm⟩
   ·have hmc : m = cap := by simpa using hmm
    rw [hx0] at hwt
    have hwe : ∀ i,i < len → ∀ q ∈ (D i).weights P e,q ≤ reachBytes := fun i hi q hq => hwt q (by
     simp only [DataW.weights,ht,List.mem_cons,List.mem_append]
     exact .inr (.inl (weightsAll_mem (List.mem_map.2 ⟨i,List.mem_range.2 hi,rfl⟩) q hq)))
    have hwb : len * P.bytesOf e ≤ reachBytes := Nat.le_trans (Nat.mul_le_mul_right _ (by simp)) (hwt ((((List.range len).map D).length + ((List.range (m - len)).map fun j => D (len + j)).length) * P.bytesOf e) (by
     simp only [DataW.weights,ht]
     exact List.mem_cons_self))
    obtain ⟨ls,hls⟩ := Deep.choose_lt (α := List AV) (n := len) (p := fun i l => GoodT P e l ∧ (∃ cs',w.cells? 0 (a.add (i * P.cellsOf e)) (P.cellsOf e) = some cs' ∧ Reps (comOf w) w l cs') ∧ l.length = P.cellsOf e) (fun i hi => by
     obtain ⟨cs',h1,h2⟩ := hel i (by omega)
     obtain ⟨l,g1,g2,g3⟩ := ih n e cs' _ he h2 (hwe i hi)
     exact ⟨l,g1,⟨cs',h1,g2⟩,g3⟩)
    refine ⟨_,.slice ht len ls ⟨by omega,hwb⟩ (fun i hi => (hls i hi).1),reps_one ?_,by simpa using hz1.symm⟩
    rcases Nat.eq_zero_or_pos len with h0 | h0
    ·subst h0; exact .emptyslice _ _ _ hm
    ·have hcell : ∀ i j,i < len → j < P.cellsOf e → ∃ cs' v,w.cells? 0 (a.add (i * P.cellsOf e)) (P.cellsOf e) = some cs' ∧ cs'[j]? = some v ∧ w.cell? (a.add (i * P.cellsOf e + j)) = some v := by
      intro i j hi hj
      obtain ⟨cs',h1,h2⟩ := hel i (by omega)
      obtain ⟨_,h4,h5⟩ := World.cells?_some h1
      have h6 := h5 j hj
      rw [Deep.add_add] at h6
      exact ⟨cs',cs'[j],h1,List.getElem?_eq_getElem (by omega),by rw [h6]; exact List.getElem?_eq_getElem (by omega)⟩
     have hsp : a.spot = none := by
      obtain ⟨_,v,_,_,h3⟩ := hcell 0 0 h0 hz
      rw [Nat.zero_mul,Nat.zero_add] at h3
      exact cell_spot (a := a) (by simpa [Addr.add] using h3)
     have hall : ∀ i,i < len * P.cellsOf e → ∃ v,w.cell? ⟨a.block,a.off + i,none⟩ = some v := by
      intro i hi
      have h1 : i / P.cellsOf e < len := (Nat.div_lt_iff_lt_mul hz).2 hi
      obtain ⟨_,v,_,_,h3⟩ := hcell (i / P.cellsOf e) (i % P.cellsOf e) h1 (Nat.mod_lt _ hz)
      rw [Nat.mul_comm,Nat.div_add_mod,addrAdd hsp] at h3
      exact ⟨v,h3⟩
     obtain ⟨vs,hvs⟩ := Deep.choose_lt (α := Value) hall
     have ea : a = ⟨a.block,a.off,none⟩ := by cases a; simp_all
     have hl' : ((List.range len).map fun i => packT P e (ls i)).length = len := by simp
     rw [ea]
     have := Rep.slice (com := comOf w) (w := w) (P.cellsOf e) ((List.range len).map fun i => packT P e (ls i)) a.block a.off cap vs (by
       intro y hy
       simp only [List.mem_map,List.mem_range] at hy
       obtain ⟨i,hi,rfl⟩ := hy
       rw [(hls i hi).1.cells]
       exact ⟨(hls i hi).2.2,(hls i hi).1.flat⟩)
      (by rw [hl']; exact hl) hm (by
       rw [hl']
       have hpos : 0 < len * P.cellsOf e := Nat.mul_pos h0 hz
       have := comOf_lt (hvs (len * P.cellsOf e - 1) (by omega))
       omega) (by rw [hl']; exact hvs) (by
       intro i y j z hy hz'
       rw [List.getElem?_map] at hy
       rcases Nat.lt_or_ge i len with hi | hi
       ·rw [List.getElem?_range hi] at hy
        simp only [Option.map_some,Option.some.injEq] at hy
        subst hy
        rw [(hls i hi).1.cells] at hz'
        obtain ⟨_,⟨cs1,h1,h2⟩,h3⟩ := hls i hi
        have hj : j < P.cellsOf e := by
         rw [← h3]
         exact (List.getElem?_eq_some_iff.1 hz').1
        obtain ⟨cs2,v,q1,q2,q3⟩ := hcell i j hi hj
        rw [h1] at q1
        cases q1
        have hlt : i * P.cellsOf e + j < len * P.cellsOf e := by
         have : (i + 1) * P.cellsOf e ≤ len * P.cellsOf e := Nat.mul_le_mul_right _ hi
         rw [Nat.add_mul] at this
         omega
        have h4 := hvs _ hlt
        rw [addrAdd hsp] at q3
        rw [h4] at q3
        cases q3
        exact h2.2 j z _ hz' q2
       ·rw [List.getElem?_eq_none (by simpa using hi)] at hy
        simp at hy)
     rw [hl'] at this
     exact this
  ·rename_i fs ht
   obtain ⟨ho,hfs⟩ := plainT_struct ht hp0
   obtain ⟨xs,n,_,hx0,hlen,hxl,hx⟩ := DataW.trod_struct ht h
   rw [hx0] at hwt
   obtain ⟨ls,hls⟩ := Deep.choose_lt (α := List AV) (n := fs.size) (p := fun i l => ∀ f,fs[i]? = some f → GoodT P f.type l ∧ Reps (comOf w) w l ((cs.drop f.offset).take (P.cellsOf f.type))) (fun i hi => by
    have h1 := hx i fs[i] (by simp [hi])
    rw [List.getElem?_eq_getElem (by omega)] at h1
    obtain ⟨l,g1,g2,_⟩ := ih n _ _ _ (hfs fs[i] (by simp)) h1 (fun q hq => hwt q (by
     simp only [DataW.weights,ht]
     exact DataW.weights_mem_each (j := i) (t := fs[i].type) (d := (xs[i]'(by omega)).1) (by simp [hi]) (by rw [List.getElem?_map,List.getElem?_eq_getElem (by omega)]; rfl) q hq))
    refine ⟨l,fun f hf => ?_⟩
    rw [Array.getElem?_eq_getElem hi] at hf
    cases hf
    exact ⟨g1,g2⟩)
   have hlt : ∀ i f,fs[i]? = some f → i < fs.size := fun i f hf => (Array.getElem?_eq_some_iff.1 hf).1
   have hr := fields_reps (P := P) (com := comOf w) (w := w) ls cs fs.toList 0 0 (by rw [hlen]; exact ho) (fun i f hf => by
    have hf' : fs[i]? = some f := by simpa using hf
    rw [Nat.zero_add]; exact (hls i (hlt i f hf') f hf').2)
   rw [← List.range_eq_range',Array.length_toList,List.drop_zero] at hr
   exact ⟨_,.struct ht ls (fun i f hf => (hls i (hlt i f hf) f hf).1),hr,hr.1.trans hlen⟩
  ·rename_i q e ht
   obtain ⟨hc,he⟩ := plainT_array ht hp0
   obtain ⟨xs,n,_,hx0,hlen,hxl,hx⟩ := DataW.trod_array ht h
   rw [hx0] at hwt
   obtain ⟨ls,hls⟩ := Deep.choose_lt (α := List AV) (n := q) (p := fun i l => GoodT P e l ∧ Reps (comOf w) w l ((cs.drop (i * P.cellsOf e)).take (P.cellsOf e))) (fun i hi => by
    have h1 := hx i hi
    rw [List.getElem?_eq_getElem (by omega)] at h1
    obtain ⟨l,g1,g2,_⟩ := ih n _ _ _ he h1 (fun q hq => hwt q (by
     simp only [DataW.weights,ht]
     exact weightsAll_mem (List.mem_map.2 ⟨_,List.getElem_mem _,rfl⟩) q hq))
    exact ⟨l,g1,g2⟩)
   have hr := elems_reps (com := comOf w) (w := w) ls cs (P.cellsOf e) q 0 (by rw [hlen,hc,Nat.zero_add]) (fun i hi => by
    rw [Nat.zero_add]; exact (hls i hi).2)
   rw [← List.range_eq_range',Nat.zero_mul,List.drop_zero] at hr
   exact ⟨_,.array ht ls (fun i hi => (hls i hi).1),hr,hr.1.trans hlen⟩
  ·simp at hp
def GoodAll (P : Program) : List TypeId → List AV → Prop
 | [],[] => True
 | t :: ts,x :: xs => (∃ l,GoodT P t l ∧ x = packT P t l) ∧ GoodAll P ts xs
 | _,_ => False
theorem pack_rep {r : Reach} {base : Nat} {t : TypeId} {l : List AV} {v : Value} (h : GoodT P t l) (hv : Value.okWide P w r base t v) (hr : Reps (comOf w) w l v.cells.toList) : Rep (comOf w) w (packT P t l) v := by
 have one : ∀ {x : AV},Reps (comOf w) w [x] [v] → Rep (comOf w) w x v := fun h => h.2 0 _ _ rfl rfl
 unfold packT
 cases h with
 | bool ht b => obtain ⟨b',rfl⟩ := WideShapes.okWide_bool ht hv; rw [ht]; exact one hr
 | int ht n hw => obtain ⟨b',rfl⟩ := WideShapes.okWide_int ht hv; rw [ht]; exact one hr
 | str ht s hs => obtain ⟨b',rfl⟩ := WideShapes.okWide_string ht hv; rw [ht]; exact one hr
 | slice ht n ls hn h => obtain ⟨a,b,c,rfl⟩ := WideShapes.okWide_slice ht hv; rw [ht]; exact one hr
 | struct ht ls h =>
  obtain ⟨cs,rfl,_⟩ := WideShapes.okWide_struct ht hv
  rw [ht]
  exact .agg _ cs.toList hr.1 hr.2
 | array ht ls h =>
  simp only [Value.okWide,ht] at hv
  obtain ⟨cs,rfl,_⟩ := hv
  rw [ht]
  exact .agg _ cs.toList hr.1 hr.2
theorem open_all {r : Reach} {base k : Nat} : ∀ (ts : List TypeId) (vs : List Value) (ds : List (DataW H)) (ps : List MemPlace),(∀ t ∈ ts,plainT P k t = true) →
  DataW.TrodAll enc P w 0 (fun _ => true) true ts vs ds ps → (∀ (j : Nat) t v,ts[j]? = some t → vs[j]? = some v → Value.okWide P w r base t v) → (∀ (j : Nat) t d,ts[j]? = some t → ds[j]? = some d → ∀ n ∈ d.weights P t,n ≤ reachBytes) →
  ∃ xs,GoodAll P ts xs ∧ Reps (comOf w) w xs vs := by
 intro ts
 induction ts with
 | nil =>
  intro vs ds ps _ h _ _
  obtain ⟨rfl,_,_⟩ := ChangeShapes.trodAll_nil h
  exact ⟨[],trivial,rfl,fun i x v hx => by simp at hx⟩
 | cons t ts ih =>
  intro vs ds ps hp h hv hz
  obtain ⟨v,vs',d,ds',p,p',rfl,rfl,rfl,h0,h1⟩ := ChangeShapes.trodAll_cons h
  obtain ⟨xs,g1,g2⟩ := ih vs' ds' p' (fun t' ht' => hp t' (by simp [ht'])) h1 (fun j t' v' a b => hv (j + 1) t' v' (by simpa using a) (by simpa using b)) (fun j t' d' a b => hz (j + 1) t' d' (by simpa using a) (by simpa using b))
  obtain ⟨fuel,hf⟩ := h0
  obtain ⟨l,q1,q2,_⟩ := open_good k fuel t _ _ (hp t (by simp)) hf (hz 0 t d rfl rfl)
  refine ⟨packT P t l :: xs,⟨⟨l,q1,rfl⟩,g1⟩,?_⟩
  exact Reps.append' (l := [_]) (c := [_]) (reps_one (pack_rep q1 (hv 0 t v rfl rfl) q2)) g2
theorem inv_start (w : World) : Inv ⟨comOf w,fun _ => False,(w,w.heap.size)⟩ w := by
 refine ⟨Below.refl _ _,fun b hb => ?_,fun _ h => h.elim⟩
 show isCells w b (comOf w b)
 have hb : comOf w b ≠ 0 := hb
 unfold comOf at hb ⊢
 split
 ·rename_i cs e fz he; exact ⟨cs,e,fz,he,Nat.le_refl _⟩
 ·rename_i hn
  split at hb
  ·rename_i he; exact absurd he (hn _ _ _)
  ·exact absurd rfl hb
theorem lift_call {f : FuncId} {xs : List AV} {vs : List Value} {K : AV → Mem → Prop} (h : ACall P f xs (fun _ => none) K) (hr : Reps (comOf w) w xs vs) :
  Calls P f vs.toArray w fun e w' => ∃ (v : Value) (r : AV) (m' : Mem) (G' : Gh),e = .returned v ∧ Rep G'.com w' r v ∧ K r m' ∧ Below w.heap.size w w' :=
 (h.does ⟨comOf w,fun _ => False,(w,w.heap.size)⟩ w vs (inv_start w) (fun b x hb => by simp at hb) hr).mono fun e w' ⟨v,r,m',G',h1,h2,h3,h4,h5,h6⟩ =>
  ⟨v,r,m',G',h1,h5,h6,by
   have := h3.below
   rw [h2.W0] at this
   exact this⟩
theorem lift_true {f : FuncId} {xs : List AV} {vs : List Value} (h : ∃ K : AV → Mem → Prop,ACall P f xs (fun _ => none) K ∧ ∀ r m,K r m → r = .bool true) (hr : Reps (comOf w) w xs vs) :
  Calls P f vs.toArray w fun e w' => e = .returned (.bool true) ∧ Below w.heap.size w w' := by
 obtain ⟨K,h,hk⟩ := h
 refine (lift_call h hr).mono fun e w' ⟨v,r,m',G',h1,h2,h3,h4⟩ => ?_
 subst h1
 rw [hk r m' h3] at h2
 cases h2
 exact ⟨rfl,h4⟩
end
end Go.Proofs.YtdmejgfcaacdoaaGreat.Abs
/- The frame of a row 'for every input the law returns true; each argument reads behind the call as it read before',out of what its function does in the abstract. -/
namespace Go.Proofs.YtdmejgfcaacdoaaGreat.Abs
set_option linter.unusedSimpArgs false
open Go Go.RowKit Go.ChangeShapes Go.WideShapes
section
variable {H : Type} {enc : TypeId × Value → H} {P : Program}
theorem trodAll_below (hl : laidOutB P = true) {W W' : World} (hb : Below W.heap.size W W') : ∀ (ts : List TypeId) (vs : List Value) (ds : List (DataW H)) (ps : List MemPlace),(∀ t ∈ ts,P.readableRec t = true ∧ t < P.types.size) →
  DataW.TrodAll enc P W 0 (fun _ => true) true ts vs ds ps → DataW.TrodAll enc P W' 0 (fun b => decide (b < W.heap.size)) true ts vs ds ps := by
 intro ts
 induction ts with
 | nil =>
  intro vs ds ps _ h
  obtain ⟨rfl,rfl,rfl⟩ := trodAll_nil h
  exact rfl
 | cons t ts ih =>
  intro vs ds ps hr h
  have hlt := DataW.TrodAll.lt h
  obtain ⟨v,vs',d,ds',p,p',rfl,rfl,rfl,h0,h1⟩ := trodAll_cons h
  obtain ⟨r1,r2⟩ := hr t (by simp)
  exact ⟨p,p',Below.trod hl r1 r2 h0 hb (fun x hx => hlt x (by simp [hx])),ih vs' ds' p' (fun t' ht' => hr t' (by simp [ht'])) h1,rfl⟩
theorem trodAll_length : ∀ {W : World} {b : Nat} {sp : Nat → Bool} {hd : Bool} {ts : List TypeId} {vs : List Value} {ds : List (DataW H)} {ps : List MemPlace},DataW.TrodAll enc P W b sp hd ts vs ds ps → ds.length = ts.length
 | _,_,_,_,[],vs,ds,ps,h => by
  obtain ⟨_,rfl,_⟩ := trodAll_nil h
  rfl
 | _,_,_,_,t :: ts,vs,ds,ps,h => by
  obtain ⟨_,_,_,_,_,_,_,rfl,_,_,h1⟩ := trodAll_cons h
  simp [trodAll_length h1]
structure LawTypes (P : Program) (fn : Func) (ts : List TypeId) (tb : TypeId) (k : Nat) : Prop where
 params : fn.params.toList = ts
 res : fn.resultTypes = #[tb]
 bool : P.underlying tb = some .bool
 laid : laidOutB P = true
 all : ∀ t ∈ ts,(P.readableRec t = true ∧ t < P.types.size) ∧ plainT P k t = true
theorem law_contract {f : FuncId} {fn : Func} {ts : List TypeId} {tb : TypeId} {k : Nat} {s : ChangeSpec} (ht : LawTypes P fn ts tb k) (hsv : s.vars = [])
  (hsp : ∀ ds : List (DataW H),ds.length = ts.length → s.fn H ds = { results := [.lit (.bool true)],args := ds })
  (hc : ∀ xs,GoodAll P ts xs → ∃ K : AV → Mem → Prop,ACall P f xs (fun _ => none) K ∧ ∀ r m,K r m → r = .bool true)
  (W : World) (base : Nat) (args : Array Value) (ds gs : List (DataW H)) (before : List MemPlace)
  (hval : ∀ (j : Nat) t v,fn.params[j]? = some t → args[j]? = some v → Value.okWide P W .any base t v)
  (hW : DataW.Whole enc P fn.params.toList s.vars false W args.toList ds gs before)
  (hz : (DataW.weightsEach P (fn.params.toList ++ s.plain.varTypes P) (ds ++ gs)).all (· ≤ reachBytes) = true) :
  Calls P f args W fun e W' => ∃ v,e = .returned v ∧ s.post enc P fn false true false false W args v W' := by
 have hW' := hW
 obtain ⟨p,q,hA,hV,hb,hfz,hnd⟩ := hW
 rw [hsv] at hV
 obtain ⟨rfl,rfl⟩ := trodVars_none hV
 have hA0 := hA
 rw [ht.params] at hA
 obtain ⟨xs,g1,g2⟩ := open_all ts args.toList ds p (fun t h => (ht.all t h).2) hA (fun j t v h1 h2 => hval j t v (by rw [← ht.params] at h1; simpa using h1) (by simpa using h2)) (fun j t d h1 h2 n hn => by
  have h3 := List.all_eq_true.1 hz n (DataW.weights_mem_each (j := j) (t := t) (d := d) (by rw [List.getElem?_append_left (by rw [ht.params]; exact (List.getElem?_eq_some_iff.1 h1).1),ht.params]; exact h1) (by rw [List.append_nil]; exact h2) n hn)
  exact of_decide_eq_true h3)
 have := lift_true (hc xs g1) g2
 rw [Array.toArray_toList] at this
 refine this.mono fun e W' ⟨he,hbl⟩ => ⟨_,he,ds,[],before,[],p,[],hW',?_,?_,?_,?_,fun h => by cases h⟩
 ·rw [ht.res,List.append_nil,hsp ds (trodAll_length hA)]
  exact trodAll_mk1 (shut_bool ht.bool true)
 ·rw [List.append_nil,hsp ds (trodAll_length hA),ht.params]
  exact trodAll_below ht.laid hbl ts _ _ _ (fun t h => (ht.all t h).1) hA
 ·rw [hsv,List.append_nil,hsp ds (trodAll_length hA)]
  exact rfl
 ·exact hbl.frame _
end
end Go.Proofs.YtdmejgfcaacdoaaGreat.Abs
/- What an argument of a type of plain data is,by the type's form. -/
namespace Go.Proofs.YtdmejgfcaacdoaaGreat.Abs
set_option linter.unusedSimpArgs false
open Go Go.RowKit
section
variable {P : Program} {t : TypeId} {l : List AV}
theorem GoodT.bool_inv (hu : P.underlying t = some .bool) (h : GoodT P t l) : ∃ b,l = [.bool b] ∧ packT P t l = .bool b := by
 cases h with
 | bool ht b => exact ⟨b,rfl,by unfold packT; rw [hu]; rfl⟩
 | int ht | str ht | slice ht | struct ht | array ht => rw [hu] at ht; cases ht
theorem GoodT.int_inv {k : IntKind} (hu : P.underlying t = some (.int k)) (h : GoodT P t l) : ∃ n,l = [.int k n] ∧ packT P t l = .int k n ∧ (Lit.int k n).wf = true := by
 cases h with
 | int ht n hw => rw [hu] at ht; cases ht; exact ⟨n,rfl,by unfold packT; rw [hu]; rfl,hw⟩
 | bool ht | str ht | slice ht | struct ht | array ht => rw [hu] at ht; cases ht
theorem GoodT.str_inv (hu : P.underlying t = some .string) (h : GoodT P t l) : ∃ s,l = [.str s] ∧ packT P t l = .str s ∧ s.size ≤ maxLen := by
 cases h with
 | str ht s hs => exact ⟨s,rfl,by unfold packT; rw [hu]; rfl,hs⟩
 | bool ht | int ht | slice ht | struct ht | array ht => rw [hu] at ht; cases ht
theorem list_of_range {α β : Type} (ψ : Nat → α) (φ : β → α) (Q : β → Prop) : ∀ n,(∀ i,i < n → ∃ x,Q x ∧ ψ i = φ x) → ∃ xs : List β,(List.range n).map ψ = xs.map φ ∧ xs.length = n ∧ ∀ x ∈ xs,Q x
 | 0,_ => ⟨[],rfl,rfl,by simp⟩
 | n + 1,h => by
  obtain ⟨xs,h1,h2,h3⟩ := list_of_range ψ φ Q n fun i hi => h i (by omega)
  obtain ⟨x,q1,q2⟩ := h n (by omega)
  refine ⟨xs ++ [x],by simp [List.range_succ,h1,q2],by simp [h2],fun y hy => ?_⟩
  rcases List.mem_append.1 hy with hy | hy
  ·exact h3 y hy
  ·rw [List.mem_singleton.1 hy]; exact q1
theorem GoodT.slice_inv {β : Type} {e : TypeId} (hu : P.underlying t = some (.slice e)) (φ : β → AV) (Q : β → Prop) (hel : ∀ l,GoodT P e l → ∃ x,Q x ∧ packT P e l = φ x) (h : GoodT P t l) :
  ∃ xs : List β,l = [.slice (P.cellsOf e) (xs.map φ)] ∧ packT P t l = .slice (P.cellsOf e) (xs.map φ) ∧ xs.length ≤ maxLen ∧ (∀ x ∈ xs,Q x) ∧ xs.length * P.bytesOf e ≤ reachBytes := by
 cases h with
 | slice ht n ls hn hg =>
  rw [hu] at ht; cases ht
  obtain ⟨xs,h1,h2,h3⟩ := list_of_range (fun i => packT P e (ls i)) φ Q n fun i hi => hel _ (hg i hi)
  exact ⟨xs,by rw [h1],by rw [h1]; unfold packT; rw [hu]; rfl,by rw [h2]; exact hn.1,h3,by rw [h2]; exact hn.2⟩
 | bool ht | int ht | str ht | struct ht | array ht => rw [hu] at ht; cases ht
theorem GoodT.struct_inv {fs : Array Field} (hu : P.underlying t = some (.struct fs)) (h : GoodT P t l) :
  ∃ ls : Nat → List AV,l = (List.range fs.size).flatMap ls ∧ packT P t l = .agg l ∧ ∀ i f,fs[i]? = some f → GoodT P f.type (ls i) := by
 cases h with
 | struct ht ls hg => rw [hu] at ht; cases ht; exact ⟨ls,rfl,by unfold packT; rw [hu],hg⟩
 | bool ht | int ht | str ht | slice ht | array ht => rw [hu] at ht; cases ht
theorem GoodT.array_inv {β : Type} {n : Nat} {e : TypeId} (hu : P.underlying t = some (.array n e)) (φ : β → List AV) (Q : β → Prop) (hel : ∀ l,GoodT P e l → ∃ x,Q x ∧ l = φ x) (h : GoodT P t l) :
  ∃ xs : List β,l = xs.flatMap φ ∧ packT P t l = .agg l ∧ xs.length = n ∧ ∀ x ∈ xs,Q x := by
 cases h with
 | array ht ls hg =>
  rw [hu] at ht; cases ht
  obtain ⟨xs,h1,h2,h3⟩ := list_of_range ls φ Q n fun i hi => hel _ (hg i hi)
  exact ⟨xs,by rw [List.flatMap_def,List.flatMap_def,h1],by unfold packT; rw [hu],h2,h3⟩
 | bool ht | int ht | str ht | slice ht | struct ht => rw [hu] at ht; cases ht
theorem range2 : List.range 2 = [0,1] := rfl
theorem range3 : List.range 3 = [0,1,2] := rfl
theorem range4 : List.range 4 = [0,1,2,3] := rfl
end
end Go.Proofs.YtdmejgfcaacdoaaGreat.Abs
