/- Lemmas for the statements of this seat (X21): they hold without conditions beyond those that each one states. -/
import Derived.Test.YtdmejgfcaacdoaaGreatX20
import Derived.Test.YtdmejgfcaacdoaaGreatX9
import Derived.Test.YtdmejgfcaacdoaaGreatX11
import Derived.Test.YtdmejgfcaacdoaaGreatX10
/- Contracts: how many corrections are left at a place. -/
namespace Go.Proofs.YtdmejgfcaacdoaaGreat.Abs
set_option linter.unusedSimpArgs false
set_option maxHeartbeats 4000000
set_option maxRecDepth 100000
open Go Go.RowKit Go.Proofs
theorem buildV (place : Nat → Option (Nat × Nat)) (cells : List AV) (i : Nat) (x : AV) (r : List (Nat × SV)) : buildFrom place cells ((i,.v x) :: r) =
  match place i with
  | some (off,sz) => if known x = true ∧ x.cells.length = sz ∧ off + sz ≤ cells.length then buildFrom place (overlay cells off x.cells) r else none
  | none => none := by
 cases h : place i with
 | none => rw [buildFrom.eq_3 _ _ _ _ _ (by intro a b c e; rw [h] at e; cases e)]
 | some y => obtain ⟨off,sz⟩ := y; rw [buildFrom.eq_2 _ _ _ _ _ _ _ h]
def knownP (f s : List ByteArray) (L : List (Nat × Nat)) : List (AV × AV) := L.map fun x => (placeA x.1 x.2,.int .i64 (leftP f s x))
theorem knownP_find (f s : List ByteArray) (x : Nat × Nat) (L : List (Nat × Nat)) : AggFinds Tryz.prog 132 (placeA x.1 x.2) (knownP f s L) (if x ∈ L then some (.int .i64 (leftP f s x)) else none) :=
 place_find (fun x => .int .i64 (leftP f s x)) x L
theorem knownP_add (f s : List ByteArray) (L : List (Nat × Nat)) (x : Nat × Nat) : knownP f s L ++ [(placeA x.1 x.2,.int .i64 (leftP f s x))] = knownP f s (L ++ [x]) := by
 unfold knownP; rw [List.map_append]; rfl
structure LeftJ (f s : List ByteArray) (b : Nat) (L : List (Nat × Nat)) (n : Nat) (m m1 : Mem) : Prop where
 k : ∃ L',(∀ y ∈ L',y ∈ L ∨ n < y.1 + y.2) ∧ m1 b = some (.map (knownP f s L'))
 s : Keeps (fun k => k = b) m m1
def CorrOk (f s : List ByteArray) (b n : Nat) : Prop := ∀ (x : Nat × Nat),x.1 ≤ f.length → x.2 ≤ s.length → n ≤ x.1 + x.2 → ∀ (L : List (Nat × Nat)) (m : Mem),m b = some (.map (knownP f s L)) →
 ACall Tryz.prog 64 [.eptr (readerL f s b),placeA x.1 x.2] m fun r m' => r = .int .i64 (leftP f s x) ∧ (∃ L',(∀ y ∈ L',y ∈ L ∨ x.1 + x.2 ≤ y.1 + y.2) ∧ m' b = some (.map (knownP f s L'))) ∧ Keeps (fun k => k = b) m m'
theorem left1_c (f s : List ByteArray) (hfl : f.length ≤ 1000000) (hsl : s.length ≤ 1000000) (b i k : Nat) (hi : i ≤ f.length) (hk : k ≤ s.length) (hc : CorrOk f s b (i + k + 1)) (L : List (Nat × Nat)) (m0 : Mem) (kind : Int) (h0 : 0 ≤ kind) (h3 : kind ≤ 3) (m : Mem) (hJ : LeftJ f s b L (i + k) m0 m) :
  ACall Tryz.prog 114 [.int .i64 kind,.eptr [.eptr (readerL f s b)],.eptr [.int .i64 i,.int .i64 k]] m fun r m' => r = .int .i64 (ofP f s i k kind) ∧ LeftJ f s b L (i + k) m0 m' := by
 have hst := step_c f s b i k kind h0 h3 hi hk hfl hsl
 have hin := step_in f s h0 h3 hi hk
 obtain ⟨L1,hL1,hmb⟩ := hJ.k
 have hle := leftP_le f s
 unfold ofP
 generalize stepR f s kind i k = R at *
 have hco := fun h1 h2 h3 => hc R.1 h1 h2 h3 L1 m hmb
 simp only [readerL,placeA,strs,stepA] at hst hco ⊢
 (refine acall_intro (E := envC (modeAt [5] []) false []) (envCOk _ _ _) rfl Tryz.func114 rfl Tryz.call114 (by kernel_rfl) (by simp [Tryz.ntmps114]) ?_; simp only [Tryz.f114];  simp(maxSteps:=9^9)only[↓VX,VQ,seval])
 (refine ACall.pure (hst) ?_; try simp(maxSteps:=9^9)only[↓VX,VQ,seval])
 repeat'(first|intro _|apply And.intro)
 all_goals try first|omega|(simp only[LL];omega)|exact nlC (by decide) _|exact nbC rfl
 ·rename_i hneg
  rw [if_pos hneg]
 ·rename_i hneg
  rw [if_neg hneg]
  obtain ⟨a1,a2,a3,a4⟩ := hin hneg
  have hv := hle R.1
  refine ACall.told (hco a1 a2 a3) ?_
  rintro r m1 ⟨rfl,⟨L2,w1,w2⟩,w3⟩
  simp(maxSteps:=9^9)only[↓VX,VQ,seval]
  refine ⟨by omega,⟨L2,fun y hy => by rcases w1 y hy with q | q; exact hL1 y q; exact .inr (by omega),w2⟩,fun k z hk hz => w3 k z hk (hJ.s k z hk hz)⟩
theorem left_c (f s : List ByteArray) (hfl : f.length ≤ 1000000) (hsl : s.length ≤ 1000000) (b i k : Nat) (hi : i ≤ f.length) (hk : k ≤ s.length) (hc : CorrOk f s b (i + k + 1)) (L : List (Nat × Nat)) (m : Mem) (hm : m b = some (.map (knownP f s L))) :
  ACall Tryz.prog 63 [.eptr (readerL f s b),placeA i k] m fun r m' => r = .tuple [.int .i64 (leftP f s (i,k)),.int .i64 (kindOf (f.drop i) (s.drop k) : Nat)] ∧ LeftJ f s b L (i + k) m m' := by
 have h1 := fun x (hx : x ∈ ([0,1,2,3] : List Int)) m1 hJ => left1_c f s hfl hsl b i k hi hk hc L m x (by simp at hx; omega) (by simp at hx; omega) m1 hJ
 have hJ0 : LeftJ f s b L (i + k) m m := ⟨⟨L,fun y hy => .inl hy,hm⟩,Keeps.refl _ _⟩
 have hls := least_c 114 [.eptr [.eptr (readerL f s b)],.eptr [.int .i64 i,.int .i64 k]] (ofP f s i k) [0,1,2,3] (LeftJ f s b L (i + k) m) (fun x hx m1 hJ => h1 x hx m1 hJ) m hJ0
 have heq := eqFlatPlace i k f.length s.length
 simp only [Bool.and_true] at heq
 by_cases he : i = f.length ∧ k = s.length
 ·obtain ⟨l1,l2⟩ := left_end f s he.1 he.2
  rw [l1,l2]
  have e1 : (decide ((i : Int) = (f.length : Int)) && decide ((k : Int) = (s.length : Int))) = true := by simp; omega
  rw [e1] at heq
  simp only [readerL,placeA,strs] at heq ⊢
  (refine acall_intro (E := envC (modeAt [] []) false []) (envCOk _ _ _) rfl Tryz.func63 rfl Tryz.call63 (by kernel_rfl) (by simp [Tryz.ntmps63]) ?_; simp only [Tryz.f63];  simp(maxSteps:=9^9)only[↓VX,VQ,seval,e1])
  (refine adraw (by first | exact envOk _ | exact envCOk _ _ _) mixed [⟨false,false,0⟩,⟨false,false,0⟩,⟨false,false,0⟩,⟨false,false,0⟩,⟨false,false,0⟩,⟨false,false,0⟩,⟨false,false,0⟩,⟨false,false,0⟩,⟨false,false,0⟩,⟨false,false,0⟩,⟨false,false,0⟩,⟨false,false,0⟩,⟨false,false,0⟩] (by kernel_rfl) ?_; show vcOpsD _ _ _ (_ :: _) _ _)
  simp(maxSteps:=9^9)only[↓VX,VQ,seval,buildV,e1]
  exact ⟨heq,hJ0⟩
 ·have lk := least_kind f s i k hi hk he
  rw [lk] at hls
  have e1 : (decide ((i : Int) = (f.length : Int)) && decide ((k : Int) = (s.length : Int))) = false := by simp; omega
  rw [e1] at heq
  simp only [readerL,placeA,strs,ints,List.map_cons,List.map_nil] at heq hls ⊢
  (refine acall_intro (E := envC (modeAt [] []) false []) (envCOk _ _ _) rfl Tryz.func63 rfl Tryz.call63 (by kernel_rfl) (by simp [Tryz.ntmps63]) ?_; simp only [Tryz.f63];  simp(maxSteps:=9^9)only[↓VX,VQ,seval,e1])
  (refine adraw (by first | exact envOk _ | exact envCOk _ _ _) mixed [⟨false,false,0⟩,⟨false,false,0⟩,⟨false,false,0⟩,⟨false,false,0⟩,⟨false,false,0⟩,⟨false,false,0⟩,⟨false,false,0⟩,⟨false,false,0⟩,⟨false,false,0⟩,⟨false,false,0⟩,⟨false,false,0⟩,⟨false,false,0⟩,⟨false,false,0⟩] (by kernel_rfl) ?_; show vcOpsD _ _ _ (_ :: _) _ _)
  simp(maxSteps:=9^9)only[↓VX,VQ,seval,buildV,e1]
  refine ⟨heq,?_⟩
  refine ACall.told hls ?_
  rintro r m1 ⟨rfl,hJ1⟩
  simp(maxSteps:=9^9)only[↓VX,VQ,seval]
  exact hJ1
theorem corr_all (f s : List ByteArray) (hfl : f.length ≤ 1000000) (hsl : s.length ≤ 1000000) (b : Nat) : ∀ (d n : Nat),f.length + s.length < n + d → CorrOk f s b n
 | 0,n,hn => fun x h1 h2 h3 => by omega
 | d + 1,n,hn => fun x h1 h2 h3 L m hm => by
  have ih := corr_all f s hfl hsl b d (x.1 + x.2 + 1) (by omega)
  have hl := left_c f s hfl hsl b x.1 x.2 h1 h2 ih L m hm
  have hfind := knownP_find f s x L
  have hadd := fun L' => knownP_add f s L' x
  by_cases hin : x ∈ L
  ·rw [if_pos hin] at hfind
   simp only [readerL,placeA,strs] at hfind ⊢
   (refine acall_intro (E := envC (modeAt [] []) false []) (envCOk _ _ _) rfl Tryz.func64 rfl Tryz.call64 (by kernel_rfl) (by simp [Tryz.ntmps64]) ?_; simp only [Tryz.f64];  simp(maxSteps:=9^9)only[↓VX,VQ,seval,hm])
   (refine adraw (by first | exact envOk _ | exact envCOk _ _ _) mixed [⟨false,false,0⟩,⟨false,false,0⟩,⟨false,false,0⟩,⟨false,false,0⟩,⟨false,false,0⟩,⟨false,false,0⟩,⟨false,false,0⟩,⟨false,false,0⟩,⟨false,false,0⟩,⟨false,false,0⟩,⟨false,false,0⟩] (by kernel_rfl) ?_; show vcOpsD _ _ _ (_ :: _) _ _)
   simp(maxSteps:=9^9)only[↓VX,VQ,seval,hm]
   refine VFind.of hfind ?_
   simp(maxSteps:=9^9)only[↓VX,VQ,seval]
   exact ⟨⟨L,fun y hy => .inl hy,hm⟩,Keeps.refl _ _⟩
  ·rw [if_neg hin] at hfind
   simp only [readerL,placeA,strs] at hfind hl hadd ⊢
   (refine acall_intro (E := envC (modeAt [] []) false []) (envCOk _ _ _) rfl Tryz.func64 rfl Tryz.call64 (by kernel_rfl) (by simp [Tryz.ntmps64]) ?_; simp only [Tryz.f64];  simp(maxSteps:=9^9)only[↓VX,VQ,seval,hm])
   (refine adraw (by first | exact envOk _ | exact envCOk _ _ _) mixed [⟨false,false,0⟩,⟨false,false,0⟩,⟨false,false,0⟩,⟨false,false,0⟩,⟨false,false,0⟩,⟨false,false,0⟩,⟨false,false,0⟩,⟨false,false,0⟩,⟨false,false,0⟩,⟨false,false,0⟩,⟨false,false,0⟩] (by kernel_rfl) ?_; show vcOpsD _ _ _ (_ :: _) _ _)
   simp(maxSteps:=9^9)only[↓VX,VQ,seval,hm]
   refine VFind.of hfind ?_
   simp(maxSteps:=9^9)only[↓VX,VQ,seval]
   refine ACall.told hl ?_
   rintro r m1 ⟨rfl,⟨⟨L',w1,w2⟩,w3⟩⟩
   have hnin : x ∉ L' := fun q => (w1 x q).elim hin (Nat.lt_irrefl _)
   have hfind2 := knownP_find f s x L'
   rw [if_neg hnin] at hfind2
   simp only [placeA] at hfind2
   simp(maxSteps:=9^9)only[↓VX,VQ,seval]
   (refine adraw (by first | exact envOk _ | exact envCOk _ _ _) mixed [⟨false,false,0⟩,⟨false,false,0⟩,⟨false,false,0⟩,⟨false,false,0⟩,⟨false,false,0⟩,⟨false,false,0⟩,⟨false,false,0⟩] (by kernel_rfl) ?_; show vcOpsD _ _ _ (_ :: _) _ _)
   simp(maxSteps:=9^9)only[↓VX,VQ,seval,w2]
   refine ⟨hfind2,?_⟩
   rw [hadd]
   refine ⟨⟨L' ++ [x],fun y hy => ?_,rfl⟩,fun k z hk' hz => ?_⟩
   ·rcases List.mem_append.1 hy with q | q
    ·exact (w1 y q).imp id Nat.le_of_lt
    ·rw [List.mem_singleton.1 q]; exact .inr (Nat.le_refl _)
   ·rw [upd_ne _ _ hk']; exact w3 k z hk' hz
theorem corr_c (f s : List ByteArray) (hfl : f.length ≤ 1000000) (hsl : s.length ≤ 1000000) (b i k : Nat) (hi : i ≤ f.length) (hk : k ≤ s.length) (L : List (Nat × Nat)) (m : Mem) (hm : m b = some (.map (knownP f s L))) :
  ACall Tryz.prog 64 [.eptr (readerL f s b),placeA i k] m fun r m' => r = .int .i64 (leftP f s (i,k)) ∧ (∃ L',m' b = some (.map (knownP f s L'))) ∧ Keeps (fun k => k = b) m m' := by
 exact (corr_all f s hfl hsl b (f.length + s.length + 1) 0 (by omega) (i,k) hi hk (Nat.zero_le _) L m hm).mono fun r m' ⟨h1,⟨L',_,h2⟩,h3⟩ => ⟨h1,⟨L',h2⟩,h3⟩
theorem listen_c (f s : List ByteArray) (m : Mem) : ACall Tryz.prog 62 [strs f,strs s] m fun r m' => ∃ b,m b = none ∧ r = .eptr (readerL f s b) ∧ m' = upd m b (some (.map [])) := by
 simp only [readerL,strs]
 (refine acall_intro (E := env fun _ => .imm) (envOk _) rfl Tryz.func62 rfl Tryz.call62 (by kernel_rfl) (by simp [Tryz.ntmps62]) ?_; simp only [Tryz.f62];  simp(maxSteps:=9^9)only[↓VX,VQ,seval])
 simp(maxSteps:=9^9)only[↓VX,VQ,seval,buildV]
 repeat'(first|intro _|apply And.intro)
 all_goals try first|omega|(simp only[LL];omega)|exact nlC (by decide) _|exact nbC rfl
 rename_i b hb
 exact ⟨b,hb,rfl,rfl⟩
theorem shapeOf_snoc : ∀ (ps : List RPart) (p : RPart) (m : List Nat),shapeOf (ps ++ [p]) m = shapeOf ps m ++ (if p.words = [] then List.replicate (m.drop (roomsOf ps).length).head! ByteArray.empty else p.words)
 | [],p,m => by
  simp only [List.nil_append,shapeOf,roomsOf,List.length_nil,List.drop_zero]
  split <;> simp
 | q :: ps,p,m => by
  rw [List.cons_append,shapeOf,shapeOf,roomsOf]
  by_cases e : q.words = []
  ·rw [if_pos e,if_pos e,if_pos e,shapeOf_snoc ps p,List.length_cons,List.append_assoc]
   have : List.drop ((roomsOf ps).length + 1) m = List.drop (roomsOf ps).length m.tail := by cases m <;> simp
   rw [this]
  ·rw [if_neg e,if_neg e,if_neg e,shapeOf_snoc ps p,List.append_assoc]
theorem roomsOf_snoc : ∀ (ps : List RPart) (p : RPart),roomsOf (ps ++ [p]) = roomsOf ps ++ (if p.words = [] then [(p.lo,p.hi)] else [])
 | [],p => by simp only [List.nil_append,roomsOf]
 | q :: ps,p => by
  rw [List.cons_append,roomsOf,roomsOf,roomsOf_snoc ps p]
  by_cases e : q.words = []
  ·rw [if_pos e,if_pos e]; rfl
  ·rw [if_neg e,if_neg e]
theorem take_snoc {α : Type} [Inhabited α] {l : List α} {k : Nat} (h : k < l.length) : l.take (k + 1) = l.take k ++ [l[k]!] := by
 rw [List.take_add_one,List.getElem?_eq_getElem h,getElem!_pos l k h]; rfl
def partsFit (ps : List RPart) : Prop := ps.length ≤ 5 ∧ ∀ p ∈ ps,p.words.length ≤ 3
theorem shape_length : ∀ {ps : List RPart} {m : List Nat},(∀ p ∈ ps,p.words.length ≤ 3) → (∀ n ∈ m,n ≤ 3) → (shapeOf ps m).length ≤ 3 * ps.length
 | [],_,_,_ => by simp [shapeOf]
 | p :: ps,m,hp,hm => by
  rw [shapeOf,List.length_cons]
  have ih1 := shape_length (ps := ps) (m := m) (fun q hq => hp q (List.mem_cons_of_mem _ hq)) hm
  have ih2 := shape_length (ps := ps) (m := m.tail) (fun q hq => hp q (List.mem_cons_of_mem _ hq)) (fun n hn => hm n (List.mem_of_mem_tail hn))
  have h0 := hp p List.mem_cons_self
  split
  ·rw [List.length_append,List.length_replicate]
   have : m.head! ≤ 3 := by
    cases m with
    | nil => exact Nat.zero_le _
    | cons a t => exact hm a List.mem_cons_self
   omega
  ·rw [List.length_append]; omega
theorem rooms_take_le (ps : List RPart) (k : Nat) (hk : k < ps.length) (he : (ps[k]!).words = []) : (roomsOf (ps.take k)).length < (roomsOf ps).length := by
 have h1 := take_snoc hk
 have h2 : roomsOf ps = roomsOf (ps.take (k + 1) ++ ps.drop (k + 1)) := by rw [List.take_append_drop]
 have h3 : ∀ a b : List RPart,(roomsOf a).length ≤ (roomsOf (a ++ b)).length := by
  intro a b
  induction a with
  | nil => simp [roomsOf]
  | cons q a ih =>
   rw [List.cons_append,roomsOf,roomsOf]
   split
   ·rw [List.length_cons,List.length_cons]; omega
   ·exact ih
 have h4 := h3 (ps.take (k + 1)) (ps.drop (k + 1))
 rw [← h2,h1,roomsOf_snoc,if_pos he,List.length_append] at h4
 simp at h4
 omega
theorem many_drop {x : List Nat} {j : Nat} (hj : j < x.length) : ((manyI x).map (AV.int .i64)).drop j = AV.int .i64 (((x.drop j).head! : Nat) : Int) :: ((manyI x).map (AV.int .i64)).drop (j + 1) := by
 have hl : j < ((manyI x).map (AV.int .i64)).length := by unfold manyI; simp; omega
 rw [List.drop_eq_getElem_cons hl]
 congr 1
 have : ∀ h,((manyI x).map (AV.int .i64))[j]'h = AV.int .i64 ((x[j] : Nat) : Int) := by
  unfold manyI
  intro h
  rw [List.getElem_map,List.getElem_append_left (by simpa using hj),List.getElem_map]
 rw [this,List.drop_eq_getElem_cons hj]
 rfl
theorem rooms_le (ps : List RPart) : (roomsOf ps).length ≤ ps.length := by
 induction ps with
 | nil => simp [roomsOf]
 | cons q a ih => rw [roomsOf]; split <;> simp <;> omega
theorem shape_c (nm : ByteArray) (ps : List RPart) (R : AV) (hp : partsFit ps) (x : List Nat) (hx : x.length = (roomsOf ps).length) (h3 : ∀ n ∈ x,n ≤ 3) :
  PCall Tryz.prog 111 [.eptr [.str nm,.slice 3 (ps.map partA),R],manyA x] (strs (shapeOf ps x)) := by
 intro m
 obtain ⟨hp5,hpw⟩ := hp
 have hrm := rooms_le ps
 have hml : ((manyI x).map (AV.int .i64)).length = 5 := by
  have := rooms_le ps
  unfold manyI; simp; omega
 have hmf : ((manyI x).map (AV.int .i64)).all flat = true := by simp [flat]
 have hmt : ((manyI x).map (AV.int .i64)).take 5 = (manyI x).map (AV.int .i64) := List.take_of_length_le (by omega)
 simp only [manyA,strs]
 (refine acall_intro (E := envC (modeAt [7] []) false [7]) (envCOk _ _ _) rfl Tryz.func111 rfl Tryz.call111 (by kernel_rfl) (by simp [Tryz.ntmps111]) ?_; simp only [Tryz.f111];  simp(maxSteps:=9^9)only[↓VX,VQ,seval])
 try simp(maxSteps:=9^9)only[↓VX,VQ,seval,hml,hmf,hmt]
 repeat'(first|intro _|apply And.intro)
 all_goals try first|omega|(simp only[LL];omega)|exact nlC (by decide) _|exact nbC rfl
 refine aloop (envCOk _ _ _) (fun k : Nat => ⟨[(3,.v (.eptr ((manyI x).map (AV.int .i64)))),(4,.v (.slice 1 ((shapeOf (ps.take k) x).map AV.str))),(5,.v (.int .i64 (roomsOf (ps.take k)).length)),(12,.v (.slice 3 (ps.map partA))),(13,.v (.int .i64 ps.length)),(14,.v (.int .i64 k))],[4],[],m⟩)
  (fun k => k ≤ ps.length) (fun k => ps.length - k) 0 (fun _ => rfl) (by simp) (by (simp only [FE,↓FP,seval]); try simp [shapeOf,roomsOf]) ?_
 intro k hk
 by_cases hlt : k < ps.length
 ·have hk' : ((k : Int) < (ps.length : Int)) = True := by simp; omega
  have hsn := shapeOf_snoc (ps.take k) ps[k]! x
  have hrn := roomsOf_snoc (ps.take k) ps[k]!
  rw [← take_snoc hlt] at hsn hrn
  have hrl := rooms_take_le ps k hlt
  have hpk := hpw ps[k]! (by rw [getD_any hlt]; exact List.getElem_mem hlt)
  have hlen := shape_length (ps := ps.take k) (m := x) (fun p hp => hpw p (List.mem_of_mem_take hp)) h3
  rw [List.length_take] at hlen
  simp(maxSteps:=9^9)only[↓VX,VQ,seval,hk']
  repeat'(first|intro _|apply And.intro)
  all_goals try first|omega|(simp only[LL];omega)|exact nlC (by decide) _|exact nbC rfl
  ·have he : ps[k]!.words ≠ [] := fun e => by rename_i q; rw [e] at q; simp at q
   rw [if_neg he] at hsn hrn
   refine ⟨k + 1,by omega,by dsimp only; omega,?_⟩
   (simp only [FE,↓FP,seval])
   rw [hsn,hrn]
   simp
  ·have he : ps[k]!.words = [] := List.eq_nil_of_length_eq_zero (by omega)
   rw [if_pos he] at hsn hrn
   have hrl := hrl he
   have hmd := many_drop (x := x) (j := (roomsOf (ps.take k)).length) (by omega)
   have hz : (x.drop (roomsOf (ps.take k)).length).head! ≤ 3 := by
    cases hc : x.drop (roomsOf (ps.take k)).length with
    | nil => exact Nat.zero_le _
    | cons a t => exact h3 a (List.mem_of_mem_drop (by rw [hc]; exact List.mem_cons_self))
   generalize (x.drop (roomsOf (ps.take k)).length).head! = z at *
   refine acut_at_k 4 (envCOk _ _ _) (V := vcAppI _) (fun h hd _ _ _ hi hf hs _ _ _ hn => vcAppI_sound (envCOk _ _ _) h hd hi hf hs hn) rfl rfl (fun _ : Unit => ⟨[(3,.v (.eptr ((manyI x).map (AV.int .i64)))),(4,.v (.slice 1 ((shapeOf (ps.take (k + 1)) x).map AV.str))),(5,.v (.int .i64 (roomsOf (ps.take k)).length)),(12,.v (.slice 3 (ps.map partA))),(13,.v (.int .i64 ps.length)),(14,.v (.int .i64 k))],[4],[],m⟩) (fun _ => True) (fun _ => rfl) ?_ ?_
   ·show vcOps _ _ (_ :: _) _ _
    simp(maxSteps:=9^9)only[↓VX,VQ,seval,List.take_succ_cons,List.take_zero,vcAppI,hmd]
    refine ⟨⟨by omega,by omega⟩,by rw [← List.length_map (f := AV.int .i64),hml]; omega,⟨by omega,by omega⟩,(),?_⟩
    (simp only [FE,↓FP,seval])
    rw [hsn]
    simp
   rintro _ _
   simp(maxSteps:=9^9)only[↓VX,VQ,seval]
   repeat'(first|intro _|apply And.intro)
   all_goals try first|omega|(simp only[LL];omega)|exact nlC (by decide) _|exact nbC rfl
   refine ⟨k + 1,by omega,by dsimp only; omega,?_⟩
   (simp only [FE,↓FP,seval])
   rw [hrn]
   simp
 ·have hke : k = ps.length := by omega
  subst hke
  rw [List.take_length]
  simp(maxSteps:=9^9)only[↓VX,VQ,seval]
  repeat'(first|intro _|apply And.intro)
  all_goals try first|omega|(simp only[LL];omega)|exact nlC (by decide) _|exact nbC rfl
  trivial
theorem frozen_le {G : Gh} {w : World} {m m' : Mem} (hm : MemRep G w m) (b : Nat) : G.com b ≤ frozenC G m m' b := by
 unfold frozenC
 split
 ·rename_i l hb
  rw [(hm b _ hb).2.2.2.1]; exact Nat.zero_le _
 ·exact Nat.le_refl _
def spanC (L : List (Int × Int)) : List AV := ((L.map spanR).map AV.cells).flatten
theorem spanC_length (L : List (Int × Int)) : (spanC L).length = L.length * 2 := by
 unfold spanC
 induction L with
 | nil => rfl
 | cons x L ih => simp only [List.map_cons,List.flatten_cons,List.length_append,ih,List.length_cons,spanR,AV.cells,List.length_nil]; omega
theorem span_cells (L : List (Int × Int)) : ∀ x ∈ L.map spanR,x.cells.length = 2 ∧ x.cells.all flat = true := by
 intro x hx
 obtain ⟨w,_,rfl⟩ := List.mem_map.1 hx
 exact ⟨rfl,rfl⟩
structure LookM (nm : ByteArray) (P : AV) (bf : Nat) (m0 : Mem) (L : List (Int × Int)) (ab cap : Nat) (m1 : Mem) : Prop where
 sub : ∀ k y,m0 k = some y → m1 k = some y
 nf : m0 bf = none
 f : m1 bf = some (.cells [.str nm,P,.mslice ab 0 L.length cap])
 le : L.length ≤ cap
 lm : cap ≤ maxLen
 row : (cap = 0 ∧ L = []) ∨ (m0 ab = none ∧ ab ≠ bf ∧ ∃ tail : List AV,m1 ab = some (.cells (spanC L ++ tail)) ∧ tail.length = (cap - L.length) * 2)
theorem LookM.grow {nm : ByteArray} {P : AV} {bf : Nat} {m0 : Mem} {L : List (Int × Int)} {ab cap : Nat} {m1 : Mem} (h : LookM nm P bf m0 L ab cap m1) {ab1 cap1 : Nat} (hab : (cap ≠ 0 ∧ ab1 = ab) ∨ m1 ab1 = none) (r : Int × Int) (tail : List AV)
  (ht : tail.length = (cap1 - (L.length + 1)) * 2) (hc : L.length + 1 ≤ cap1) (hcm : cap1 ≤ maxLen) :
  LookM nm P bf m0 (L ++ [r]) ab1 cap1 (upd (upd m1 ab1 (some (.cells (spanC (L ++ [r]) ++ tail)))) bf (some (.cells [.str nm,P,.mslice ab1 0 (L.length + 1) cap1]))) := by
 have na : m0 ab1 = none ∧ ab1 ≠ bf := by
  rcases hab with ⟨q,rfl⟩ | q
  ·rcases h.row with ⟨q2,_⟩ | ⟨q2,q3,_⟩
   ·exact absurd q2 q
   ·exact ⟨q2,q3⟩
  ·refine ⟨?_,fun e => by rw [e,h.f] at q; cases q⟩
   cases hx : m0 ab1 with
   | none => rfl
   | some y => rw [h.sub _ _ hx] at q; cases q
 refine ⟨fun k y hy => ?_,h.nf,by rw [upd_same,List.length_append]; rfl,by rw [List.length_append]; exact hc,hcm,.inr ⟨na.1,na.2,tail,?_,by rw [List.length_append]; exact ht⟩⟩
 ·have h1 : k ≠ bf := fun e => by rw [e,h.nf] at hy; cases hy
  have h2 : k ≠ ab1 := fun e => by rw [e,na.1] at hy; cases hy
  rw [upd_ne _ _ h1,upd_ne _ _ h2]; exact h.sub _ _ hy
 ·rw [upd_ne _ _ na.2,upd_same]
theorem LookM.settle {nm : ByteArray} {P : AV} {bf : Nat} {m0 : Mem} {L : List (Int × Int)} {ab cap : Nat} {m1 : Mem} (h : LookM nm P bf m0 L ab cap m1) {G : Gh} {w : World} (hm : MemRep G w m1) {v : Value} (hv : Rep G.com w (.ptr bf 0) v) :
  Rep (frozenC G m1 m0) w (.eptr (seenF nm P L)) v := by
 obtain ⟨_,_,_,_,cs,e,hheap,hreps⟩ := hm bf _ h.f
 have hcom : frozenC G m1 m0 bf = 3 := by unfold frozenC; rw [h.nf,h.f]; rfl
 obtain ⟨v1,vs,rfl,r1,hr⟩ := Reps.cons_inv hreps
 obtain ⟨v2,vs,rfl,r2,hr⟩ := Reps.cons_inv hr
 obtain ⟨v3,vs,rfl,r3,hr⟩ := Reps.cons_inv hr
 obtain rfl := Reps.nil_inv hr
 have hle := frozen_le (m' := m0) hm
 have h3 : Rep (frozenC G m1 m0) w (.slice 2 (L.map spanR)) v3 := by
  rcases h.row with ⟨c0,rfl⟩ | ⟨na,_,tail,k4,k5⟩
  ·subst c0
   exact weak_nil (sz := 2) (by decide) (r3.mono hle fun _ _ _ => rfl)
  ·obtain ⟨_,_,_,_,ds,e2,d1,d2⟩ := hm _ _ k4
   have d3 : Reps (frozenC G m1 m0) w (spanC L ++ tail) ds := ⟨d2.1,fun i x v hx hv => (d2.2 i x v hx hv).mono hle fun _ _ _ => rfl⟩
   obtain ⟨c1,c2,rfl,t3,_⟩ := Reps.split d3
   have hrow2 := row_flatten (es := L.map spanR) (sz := 2) (fun x hx => (span_cells L x hx).1) t3
   have hl1 : c1.length = L.length * 2 := by rw [← t3.1]; exact spanC_length L
   have hca : frozenC G m1 m0 ab = (spanC L ++ tail).length := by unfold frozenC; rw [na,k4]
   have hrm := rep_melt (b := ab) hrow2 (fun x hx => (span_cells L x hx).2) (by rw [hca,List.length_append,spanC_length,List.length_map]; omega) (fun i hi => by
    rw [List.length_map] at hi
    simp [World.cell?,d1,List.getElem?_append_left (by omega : i < c1.length)]) (r3.mono hle fun _ _ _ => rfl)
   have hme : meltA ab 2 (L.map spanR) (.mslice ab 0 L.length cap) = .slice 2 (L.map spanR) := if_pos ⟨rfl,by rw [List.length_map],h.le,h.lm⟩
   rw [hme] at hrm
   exact hrm
 cases hv with
 | ptr =>
  refine .eptr _ bf 0 (fun j => ([v1,v2,v3] : List Value).getD j undef) (by rw [hcom]; simp [seenF]) (fun i hi => ?_) (fun j x hx => ?_)
  ·have hi3 : i = 0 ∨ i = 1 ∨ i = 2 := by simp [seenF] at hi; omega
   rcases hi3 with rfl | rfl | rfl <;> simp [World.cell?,hheap]
  ·have hj : j = 0 ∨ j = 1 ∨ j = 2 := by
    obtain ⟨hj,_⟩ := List.getElem?_eq_some_iff.1 hx
    simp [seenF] at hj; omega
   rcases hj with rfl | rfl | rfl
   ·simp [seenF] at hx; subst hx; exact r1.mono hle fun _ _ _ => rfl
   ·simp [seenF] at hx; subst hx; exact r2.mono hle fun _ _ _ => rfl
   ·simp [seenF] at hx; subst hx; exact h3
theorem letlook_c (f : RForm) (hf : f.parts.length ≤ 1000) (m : Mem) : ACall Tryz.prog 53 [formA f] m fun r m' => r = .eptr (seenF f.name (.slice 3 (f.parts.map partA)) (roomsOf f.parts)) ∧ m' = m := by
 refine ACall.settle ?_
 refine ACall.mono (K := fun r m1 => ∃ bf ab cap,r = .ptr bf 0 ∧ LookM f.name (.slice 3 (f.parts.map partA)) bf m (roomsOf f.parts) ab cap m1) ?_ ?_
 ·simp only [formA,formL]
  (refine acall_intro (E := envC (modeAt [5] [8]) false []) (envCOk _ _ _) rfl Tryz.func53 rfl Tryz.call53 (by kernel_rfl) (by simp [Tryz.ntmps53]) ?_; simp only [Tryz.f53];  simp(maxSteps:=9^9)only[↓VX,VQ,seval])
  simp(maxSteps:=9^9)only[↓VX,VQ,seval,buildV]
  repeat'(first|intro _|apply And.intro)
  all_goals try first|omega|(simp only[LL];omega)|exact nlC (by decide) _|exact nbC rfl
  rename_i bf hbf _
  have hL0 : LookM f.name (.slice 3 (f.parts.map partA)) bf m (roomsOf (f.parts.take 0)) 0 0 (upd m bf (some (.cells [.str f.name,.slice 3 (f.parts.map partA),.mslice 0 0 0 0]))) :=
   ⟨fun k y hy => by rw [upd_ne _ _ (by rintro rfl; rw [hbf] at hy; cases hy)]; exact hy,hbf,by rw [upd_same]; rfl,by simp [roomsOf],by decide,.inl ⟨rfl,rfl⟩⟩
  refine aloop (envCOk _ _ _) (fun q : Nat × Nat × Nat × Mem => ⟨[(3,.v (.ptr bf 0)),(10,.v (.slice 3 (f.parts.map partA))),(11,.v (.int .i64 f.parts.length)),(12,.v (.int .i64 q.1))],[],[],q.2.2.2⟩)
   (fun q => q.1 ≤ f.parts.length ∧ LookM f.name (.slice 3 (f.parts.map partA)) bf m (roomsOf (f.parts.take q.1)) q.2.1 q.2.2.1 q.2.2.2) (fun q => f.parts.length - q.1) (0,0,0,upd m bf (some (.cells [.str f.name,.slice 3 (f.parts.map partA),.mslice 0 0 0 0]))) (fun _ => rfl)
   ⟨Nat.zero_le _,hL0⟩ (by (simp only [FE,↓FP,seval]); try simp) ?_
  rintro ⟨k,ab,cap,m1⟩ ⟨hk,hL⟩
  dsimp only at hk hL
  by_cases hlt : k < f.parts.length
  ·have hk' : ((k : Int) < (f.parts.length : Int)) = True := by simp; omega
   have hrn := roomsOf_snoc (f.parts.take k) f.parts[k]!
   rw [← take_snoc hlt] at hrn
   have hrl := rooms_le (f.parts.take k)
   rw [List.length_take] at hrl
   have hmf := hL.f
   simp(maxSteps:=9^9)only[↓VX,VQ,seval,hk']
   repeat'(first|intro _|apply And.intro)
   all_goals try first|omega|(simp only[LL];omega)|exact nlC (by decide) _|exact nbC rfl
   ·have he : f.parts[k]!.words = [] := List.eq_nil_of_length_eq_zero (by omega)
    rw [if_pos he] at hrn
    (refine adraw (by first | exact envOk _ | exact envCOk _ _ _) mixed [⟨true,false,0⟩,⟨false,false,0⟩,⟨false,false,0⟩,⟨false,false,0⟩,⟨false,false,0⟩,⟨false,false,0⟩,⟨false,false,0⟩,⟨false,false,0⟩,⟨false,false,2⟩,⟨true,false,0⟩,⟨true,false,0⟩,⟨false,false,0⟩] (by kernel_rfl) ?_; show vcOpsD _ _ _ (_ :: _) _ _)
    simp(maxSteps:=9^9)only[↓VX,VQ,seval,hmf,vcAppE]
    have hrow := hL.row
    have hle := hL.le
    have hlm := hL.lm
    obtain ⟨tail,hbox,htl⟩ : ∃ tail : List AV,((cap = 0 ∧ (roomsOf (f.parts.take k)).map spanR = [] ∧ tail = []) ∨ m1 ab = some (.cells (spanC (roomsOf (f.parts.take k)) ++ tail))) ∧ tail.length = (cap - (roomsOf (f.parts.take k)).length) * 2 := by
     rcases hrow with ⟨q1,q2⟩ | ⟨_,_,tail,q3,q4⟩
     ·exact ⟨[],.inl ⟨q1,by rw [q2]; rfl,rfl⟩,by rw [q1]; simp⟩
     ·exact ⟨tail,.inr q3,q4⟩
    have hsc : ∀ r : Int × Int,((((roomsOf (f.parts.take k)).map spanR) ++ [spanR r]).map AV.cells).flatten = spanC (roomsOf (f.parts.take k) ++ [r]) := fun r => by unfold spanC; simp
    have hsr : AV.agg [.int .i64 f.parts[k]!.lo,.int .i64 f.parts[k]!.hi] = spanR (f.parts[k]!.lo,f.parts[k]!.hi) := rfl
    refine ⟨(roomsOf (f.parts.take k)).map spanR,tail,hbox,⟨by rw [List.length_map],hle,hlm,htl,span_cells _,by rw [List.length_map]; omega⟩,fun hc => ?_,fun hc b' cap' tail' n1 n2 n3 n4 => ?_⟩
    ·rw [List.length_map] at hc ⊢
     have hc0 : cap ≠ 0 := by omega
     have hne : ab ≠ bf := by
      rcases hrow with ⟨q1,q2⟩ | ⟨_,q,_⟩
      ·omega
      ·exact q
     simp(maxSteps:=9^9)only[↓VX,VQ,seval,hne,hne.symm,hmf]
     have hg := hL.grow (.inl ⟨hc0,rfl⟩) (f.parts[k]!.lo,f.parts[k]!.hi) (tail.drop 2) (by rw [List.length_drop,htl]; omega) hc hlm
     rw [← hrn] at hg
     refine ⟨by omega,⟨(k + 1,ab,cap,_),⟨by dsimp only; omega,hg⟩,by dsimp only; omega,?_⟩⟩
     (simp only [FE,↓FP,seval])
     rw [hsr,hsc]
     rw [hrn]
     exact ⟨by simp,rfl⟩
    ·have hne : b' ≠ bf := fun e => by rw [e,hmf] at n1; cases n1
     rw [List.length_map] at hc n2 n4 ⊢
     simp(maxSteps:=9^9)only[↓VX,VQ,seval,hne,hne.symm,hmf]
     have hg := hL.grow (.inr n1) (f.parts[k]!.lo,f.parts[k]!.hi) tail' (by rw [n4]) n2 n3
     rw [← hrn] at hg
     refine ⟨by omega,⟨(k + 1,b',cap',_),⟨by dsimp only; omega,hg⟩,by dsimp only; omega,?_⟩⟩
     (simp only [FE,↓FP,seval])
     rw [hsr,hsc]
     rw [hrn]
     exact ⟨by simp,rfl⟩
   ·have he : f.parts[k]!.words ≠ [] := fun e => by rename_i q; rw [e] at q; simp at q
    rw [if_neg he,List.append_nil] at hrn
    refine ⟨(k + 1,ab,cap,m1),⟨by dsimp only; omega,by dsimp only; rw [hrn]; exact hL⟩,by dsimp only; omega,?_⟩
    (simp only [FE,↓FP,seval])
    simp
  ·have hke : k = f.parts.length := by omega
   subst hke
   rw [List.take_length] at hL
   simp(maxSteps:=9^9)only[↓VX,VQ,seval]
   repeat'(first|intro _|apply And.intro)
   all_goals try first|omega|(simp only[LL];omega)|exact nlC (by decide) _|exact nbC rfl
   exact ⟨bf,ab,cap,rfl,hL⟩
 ·rintro r m1 ⟨bf,ab,cap,rfl,h⟩
  exact ⟨_,m,h.sub,⟨rfl,rfl⟩,fun G w v hm hv => h.settle hm hv⟩
end Go.Proofs.YtdmejgfcaacdoaaGreat.Abs
