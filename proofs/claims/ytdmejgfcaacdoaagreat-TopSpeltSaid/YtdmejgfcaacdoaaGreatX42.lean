/- Lemmas for the statements of this seat (X42): they hold without conditions beyond those that each one states. -/
import Derived.Test.YtdmejgfcaacdoaaGreatX41
/- Laws: the sound strings of a set of spellings. Contracts: Count,First. -/
namespace Go.Proofs.YtdmejgfcaacdoaaGreat.Abs
set_option linter.unusedSimpArgs false
set_option maxHeartbeats 4000000
set_option maxRecDepth 100000
open Go Go.RowKit Go.Proofs
theorem fold_keys (i : Nat) : ∀ (l : List (List Nat)) (p : KB),(l.foldl (addB i) p).1 = l.foldl addH p.1
 | [],_ => rfl
 | h :: l,p => by rw [List.foldl_cons,List.foldl_cons,fold_keys i l]; rfl
theorem keys_look (b : REar) : ∀ n,(lookTo b n).1 = ((List.range n).flatMap (strsOf b)).foldl addH []
 | 0 => rfl
 | n + 1 => by
  rw [lookTo,fold_keys,keys_look b n,List.range_succ,List.flatMap_append,List.foldl_append]
  simp
structure BitsOf (set : Nat) (S : List Nat) : Prop where
 b : ∀ j,set.testBit j = true ↔ j ∈ S
theorem bitsOf_one (i : Nat) : BitsOf (2 ^ i) [i] := ⟨fun j => by
 rw [Nat.testBit_two_pow,List.mem_singleton,decide_eq_true_eq]
 exact ⟨fun e => e.symm,fun e => e.symm⟩⟩
theorem bitsOf_or {s : Nat} {S : List Nat} (h : BitsOf s S) (i : Nat) : BitsOf (s ||| 2 ^ i) (S ++ [i]) := ⟨fun j => by
 rw [Nat.testBit_or,Nat.testBit_two_pow,Bool.or_eq_true,decide_eq_true_eq,h.b,List.mem_append,List.mem_singleton]
 exact ⟨fun e => e.imp id Eq.symm,fun e => e.imp id Eq.symm⟩⟩
theorem bitsOf_lt {s : Nat} {S : List Nat} (h : BitsOf s S) (hS : ∀ i ∈ S,i < 5) : s < 32 := by
 have : s < 2 ^ 5 := Nat.lt_pow_two_of_testBit s fun i hi => by
  rw [← Bool.not_eq_true,h.b]
  intro hm
  have := hS i hm
  omega
 exact this
theorem sel_all {b : REar} {S : List Nat} (hS : ∀ i ∈ S,i < b.spellings.length) {set : Nat} (h : BitsOf set S) : selB (lookTo b b.spellings.length) set = allOf b S := by
 unfold selB allOf keysOf
 rw [keys_look]
 refine List.filter_congr fun x _ => ?_
 rw [Bool.eq_iff_iff,decide_eq_true_eq,List.all_eq_true]
 constructor
 ·intro e i hi
  have h1 := look_bit b x i b.spellings.length
  rw [decide_eq_true (hS i hi),Bool.true_and] at h1
  rw [← h1]
  have h2 : ((lookTo b b.spellings.length).2 x &&& set).testBit i = set.testBit i := by rw [e]
  rw [Nat.testBit_and,(h.b i).2 hi,Bool.and_true] at h2
  exact h2
 ·intro hall
  refine Nat.eq_of_testBit_eq fun i => ?_
  rw [Nat.testBit_and]
  cases q : set.testBit i with
  | false => rw [Bool.and_false]
  | true =>
   have hi := (h.b i).1 q
   rw [look_bit b x i b.spellings.length,decide_eq_true (hS i hi),Bool.true_and,Bool.and_true]
   exact hall i hi
theorem all_len {b : REar} (hb : EOk b) (S : List Nat) : (leastH (allOf b S)).length ≤ 5 := by
 by_cases q : allOf b S = []
 ·rw [q]; exact Nat.zero_le _
 ·have h1 : leastH (allOf b S) ∈ keysOf b := (List.mem_filter.1 (least_mem q).1).1
  have h2 : keysOf b = (lookTo b b.spellings.length).1 := (keys_look b _).symm
  rw [h2] at h1
  exact (bok_look hb (Nat.le_refl _)).l _ h1
structure KeysFit (b : REar) : Prop where
 n : (lookTo b b.spellings.length).1.length ≤ 1000000
theorem firstS_c (b : REar) (hb : EOk b) (hn : KeysFit b) (bm : Nat) {S : List Nat} (hS : ∀ i ∈ S,i < b.spellings.length) {set : Nat} (hset : BitsOf set S) (m : Mem) (hm : m bm = some (boxB (lookTo b b.spellings.length))) :
  ACall Tryz.prog 129 [.eptr (bookL b bm),.int .i64 set] m fun r m' => r = .tuple [heardA (firstH b S).1,.int .i64 (firstH b S).2] ∧ m' = m := by
 have hs5 := hb.s
 have h := earfirst1_c b bm _ (bok_look hb (Nat.le_refl _)) hn.n set (bitsOf_lt hset fun i hi => by have := hS i hi; omega) m hm
 rw [sel_all hS hset] at h
 exact h
theorem count_c (b : REar) (hf : earFit b) (hn : KeysFit b) (s : Int) : PCall Tryz.prog 75 [earA b,.int .i64 s] (.tuple [.int .i64 (countR b s).1,.int .i64 (countR b s).2]) := by
 intro m
 refine ACall.forget ?_
 have hen := fun h => earenter_c b hf b.spellings.length h [s] m
 obtain ⟨R,hR⟩ : ∃ R,R = countR b s := ⟨_,rfl⟩
 rw [← hR]
 unfold countR at hR
 obtain ⟨e,he⟩ : ∃ e,e = enterE1 b b.spellings.length [s] := ⟨_,rfl⟩
 have hez := enter_zero (b := b) (many := b.spellings.length) (l := [s])
 rw [← he] at hen hR hez
 simp only [earA,earL,bookL,ints,heardA,heardL,List.map_cons,List.map_nil] at hen ⊢
 (refine acall_intro (E := envC (modeAt [8] []) false []) (envCOk _ _ _) rfl Tryz.func75 rfl Tryz.call75 (by kernel_rfl) (by simp [Tryz.ntmps75]) ?_; simp only [Tryz.f75];  simp(maxSteps:=9^9)only[↓VX,VQ,seval,])
 intro hlen
 refine ACall.told (hen hlen) ?_
 rintro r m' (⟨h0,rfl,rfl⟩ | ⟨h0,hek,bm,hbm,rfl,hmb,hkeep⟩)
 ·have h1 : (e = 0) = False := eq_false h0
  rw [if_pos h0] at hR
  simp(maxSteps:=9^9)only[↓VX,VQ,seval,h1]
  subst hR
  exact ⟨_,fun _ _ q => q,rfl,rfl⟩
 have h1 : (e = 0) = True := eq_true h0
 have hsub := keep_sub hbm hkeep
 rw [if_neg (fun q => q h0)] at hR
 obtain ⟨hc0,hal⟩ := hez h0
 have hal := hal s (List.mem_singleton.2 rfl)
 have hb5 := hek.s
 obtain ⟨k,rfl⟩ : ∃ k : Nat,s = (k : Int) := ⟨s.toNat,by omega⟩
 rw [Int.toNat_natCast] at hR
 have hfi := firstS_c b hek hn bm (S := [k]) (fun i hi => by rw [List.mem_singleton.1 hi]; omega) (bitsOf_one k) m' hmb
 have h2k : 2 ^ k ≤ 16 := Nat.pow_le_pow_right (n := 2) (by decide) (show k ≤ 4 by omega)
 simp only [bookL,heardA,heardL] at hfi
 simp(maxSteps:=9^9)only[↓VX,VQ,seval,h1]
 refine ⟨⟨by omega,by omega,Int.le_trans (by decide) (Int.natCast_nonneg _),Int.le_trans (Int.ofNat_le.2 h2k) (by decide)⟩,?_⟩
 refine ACall.told hfi ?_
 rintro r m2 ⟨rfl,rfl⟩
 simp(maxSteps:=9^9)only[↓VX,VQ,seval]
 exact ⟨m,hsub,by rw [hR],rfl⟩
theorem firstC_c (b : REar) (hf : earFit b) (hn : KeysFit b) (hp : ∀ k,k < b.spellings.length → 0 < (firstH b [k]).1.length) (s : Int) : PCall Tryz.prog 76 [earA b,.int .i64 s] (.tuple [ints (firstE b s).1,.int .i64 (firstE b s).2]) := by
 intro m
 refine ACall.forget ?_
 have hen := fun h => earenter_c b hf b.spellings.length h [s] m
 obtain ⟨R,hR⟩ : ∃ R,R = firstE b s := ⟨_,rfl⟩
 rw [← hR]
 unfold firstE at hR
 obtain ⟨e,he⟩ : ∃ e,e = enterE1 b b.spellings.length [s] := ⟨_,rfl⟩
 have hez := enter_zero (b := b) (many := b.spellings.length) (l := [s])
 rw [← he] at hen hR hez
 simp only [earA,earL,bookL,ints,heardA,heardL,List.map_cons,List.map_nil] at hen ⊢
 (refine acall_intro (E := envC (modeAt [8] []) false []) (envCOk _ _ _) rfl Tryz.func76 rfl Tryz.call76 (by kernel_rfl) (by simp [Tryz.ntmps76]) ?_; simp only [Tryz.f76];  simp(maxSteps:=9^9)only[↓VX,VQ,seval,])
 intro hlen
 refine ACall.told (hen hlen) ?_
 rintro r m' (⟨h0,rfl,rfl⟩ | ⟨h0,hek,bm,hbm,rfl,hmb,hkeep⟩)
 ·have h1 : (e = 0) = False := eq_false h0
  rw [if_pos h0] at hR
  simp(maxSteps:=9^9)only[↓VX,VQ,seval,h1]
  subst hR
  exact ⟨_,fun _ _ q => q,rfl,rfl⟩
 have h1 : (e = 0) = True := eq_true h0
 have hsub := keep_sub hbm hkeep
 rw [if_neg (fun q => q h0)] at hR
 obtain ⟨hc0,hal⟩ := hez h0
 have hal := hal s (List.mem_singleton.2 rfl)
 have hb5 := hek.s
 obtain ⟨k,rfl⟩ : ∃ k : Nat,s = (k : Int) := ⟨s.toNat,by omega⟩
 rw [Int.toNat_natCast] at hR
 have hfi := firstS_c b hek hn bm (S := [k]) (fun i hi => by rw [List.mem_singleton.1 hi]; omega) (bitsOf_one k) m' hmb
 have hli := heardlist_c (firstH b [k]).1 (hp k (by omega)) (all_len hek [k])
 have h2k : 2 ^ k ≤ 16 := Nat.pow_le_pow_right (n := 2) (by decide) (show k ≤ 4 by omega)
 simp only [bookL,heardA,heardL,ints] at hfi hli
 simp(maxSteps:=9^9)only[↓VX,VQ,seval,h1]
 refine ⟨⟨by omega,by omega,Int.le_trans (by decide) (Int.natCast_nonneg _),Int.le_trans (Int.ofNat_le.2 h2k) (by decide)⟩,?_⟩
 refine ACall.told hfi ?_
 rintro r m2 ⟨rfl,rfl⟩
 simp(maxSteps:=9^9)only[↓VX,VQ,seval]
 (refine ACall.pure (hli) ?_; try simp(maxSteps:=9^9)only[↓VX,VQ,seval])
 exact ⟨m,hsub,by rw [hR],rfl⟩
theorem alike_c (b : REar) (hf : earFit b) (hn : KeysFit b) (s t : Int) : PCall Tryz.prog 77 [earA b,.int .i64 s,.int .i64 t] (.tuple [.int .i64 (alikeR b s t).1,.int .i64 (alikeR b s t).2]) := by
 intro m
 refine ACall.forget ?_
 have hen := fun h => earenter_c b hf b.spellings.length h [s,t] m
 obtain ⟨R,hR⟩ : ∃ R,R = alikeR b s t := ⟨_,rfl⟩
 rw [← hR]
 unfold alikeR at hR
 obtain ⟨e,he⟩ : ∃ e,e = enterE1 b b.spellings.length [s,t] := ⟨_,rfl⟩
 have hez := enter_zero (b := b) (many := b.spellings.length) (l := [s,t])
 rw [← he] at hen hR hez
 simp only [earA,earL,bookL,ints,heardA,heardL,List.map_cons,List.map_nil] at hen ⊢
 (refine acall_intro (E := envC (modeAt [10,12,14] []) false []) (envCOk _ _ _) rfl Tryz.func77 rfl Tryz.call77 (by kernel_rfl) (by simp [Tryz.ntmps77]) ?_; simp only [Tryz.f77];  simp(maxSteps:=9^9)only[↓VX,VQ,seval,])
 intro hlen
 refine ACall.told (hen hlen) ?_
 rintro r m' (⟨h0,rfl,rfl⟩ | ⟨h0,hek,bm,hbm,rfl,hmb,hkeep⟩)
 ·have h1 : (e = 0) = False := eq_false h0
  rw [if_pos h0] at hR
  simp(maxSteps:=9^9)only[↓VX,VQ,seval,h1]
  subst hR
  exact ⟨_,fun _ _ q => q,rfl,rfl⟩
 have h1 : (e = 0) = True := eq_true h0
 have hsub := keep_sub hbm hkeep
 rw [if_neg (fun q => q h0)] at hR
 obtain ⟨hc0,hal⟩ := hez h0
 have hs := hal s (by simp)
 have ht := hal t (by simp)
 have hb5 := hek.s
 obtain ⟨k,rfl⟩ : ∃ k : Nat,s = (k : Int) := ⟨s.toNat,by omega⟩
 obtain ⟨j,rfl⟩ : ∃ j : Nat,t = (j : Int) := ⟨t.toNat,by omega⟩
 refine Or.elim (Decidable.em (k = j)) (fun hkj => ?_) (fun hkj => ?_)
 ·have hi : ((k : Int) = (j : Int)) = True := eq_true (by omega)
  rw [if_pos (by omega)] at hR
  simp(maxSteps:=9^9)only[↓VX,VQ,seval,h1,hi]
  subst hR
  exact ⟨m,hsub,rfl,rfl⟩
 have hi : ((k : Int) = (j : Int)) = False := eq_false (by omega)
 rw [if_neg (by omega),Int.toNat_natCast,Int.toNat_natCast] at hR
 have hkn : k < b.spellings.length := by omega
 have hjn : j < b.spellings.length := by omega
 have hf1 := firstS_c b hek hn bm (S := [k]) (fun i hi => by rw [List.mem_singleton.1 hi]; exact hkn) (bitsOf_one k) m' hmb
 have hf2 := firstS_c b hek hn bm (S := [j]) (fun i hi => by rw [List.mem_singleton.1 hi]; exact hjn) (bitsOf_one j) m' hmb
 have hf3 := firstS_c b hek hn bm (S := [k,j]) (fun i hi => by rcases List.mem_cons.1 hi with rfl | hi; (· exact hkn); rw [List.mem_singleton.1 hi]; exact hjn) (bitsOf_or (bitsOf_one k) j) m' hmb
 have h2k : 2 ^ k ≤ 16 := Nat.pow_le_pow_right (n := 2) (by decide) (show k ≤ 4 by omega)
 have h2j : 2 ^ j ≤ 16 := Nat.pow_le_pow_right (n := 2) (by decide) (show j ≤ 4 by omega)
 have hx5 : (firstH b [k]).1.length ≤ 5 := all_len hek [k]
 have hy5 : (firstH b [j]).1.length ≤ 5 := all_len hek [j]
 generalize firstH b [k] = X at *
 generalize firstH b [j] = Y at *
 generalize firstH b [k,j] = Z at *
 have heq := eqFlatHeard X.1.length (snd X.1 0) (snd X.1 1) (snd X.1 2) (snd X.1 3) (snd X.1 4) Y.1.length (snd Y.1 0) (snd Y.1 1) (snd Y.1 2) (snd Y.1 3) (snd Y.1 4)
 have hsm := heard_same hx5 hy5
 simp only [Bool.and_true] at heq hsm
 rw [hsm] at heq
 simp only [bookL,heardA,heardL] at hf1 hf2 hf3
 simp(maxSteps:=9^9)only[↓VX,VQ,seval,h1,hi]
 refine ⟨⟨by omega,by omega,Int.le_trans (by decide) (Int.natCast_nonneg _),Int.le_trans (Int.ofNat_le.2 h2k) (by decide)⟩,?_⟩
 refine ACall.told hf1 ?_
 rintro r m2 ⟨rfl,rfl⟩
 simp(maxSteps:=9^9)only[↓VX,VQ,seval]
 refine ⟨⟨by omega,by omega,Int.le_trans (by decide) (Int.natCast_nonneg _),Int.le_trans (Int.ofNat_le.2 h2j) (by decide)⟩,?_⟩
 refine ACall.told hf2 ?_
 rintro r m2 ⟨rfl,rfl⟩
 simp(maxSteps:=9^9)only[↓VX,VQ,seval]
 (refine adrawP (by first | exact envOk _ | exact envCOk _ _ _) mixed [10,0,1,2,3,4,5,6,7,8,9,11,12] [⟨true,false,0⟩,⟨true,false,0⟩,⟨true,false,0⟩,⟨true,false,0⟩,⟨true,false,0⟩,⟨true,false,0⟩,⟨false,false,2⟩,⟨true,false,0⟩,⟨true,false,0⟩,⟨true,false,0⟩,⟨true,false,0⟩,⟨false,false,0⟩,⟨false,false,0⟩] (by kernel_rfl) ?_; simp only [List.map_cons,List.map_nil,List.getD_cons_zero,List.getD_cons_succ,List.getElem?_cons_zero,List.getElem?_cons_succ,Option.getD_some]; show vcOpsD _ _ _ (_ :: _) _ _)
 simp(maxSteps:=9^9)only[↓VX,VQ,seval]
 refine ⟨⟨by omega,by omega,Int.le_trans (by decide) (Int.natCast_nonneg _),Int.le_trans (Int.ofNat_le.2 h2k) (by decide)⟩,⟨by omega,by omega,Int.le_trans (by decide) (Int.natCast_nonneg _),Int.le_trans (Int.ofNat_le.2 h2j) (by decide)⟩,
  ⟨⟨Int.natCast_nonneg _,Int.le_trans (Int.ofNat_le.2 h2k) (by decide)⟩,Int.natCast_nonneg _,Int.le_trans (Int.ofNat_le.2 h2j) (by decide)⟩,?_⟩
 have hzz : ((Z.2 : Int) = 0) = (Z.2 = 0) := propext ⟨fun q => by omega,fun q => by omega⟩
 refine Or.elim (Decidable.em (X.2 = 1)) (fun x1 => ?_) (fun x1 => ?_)
 rotate_left
 ·have e1 : ((X.2 : Int) = 1) = False := eq_false (by omega)
  rw [if_neg (fun q => x1 q.1)] at hR
  refine ACall.told hf3 ?_
  rintro r m2 ⟨rfl,rfl⟩
  simp(maxSteps:=9^9)only[↓VX,VQ,seval,e1,hzz]
  exact ⟨fun q => ⟨m,hsub,by rw [hR,if_pos q],rfl⟩,fun q => ⟨m,hsub,by rw [hR,if_neg q],rfl⟩⟩
 have e1 : ((X.2 : Int) = 1) = True := eq_true (by omega)
 refine Or.elim (Decidable.em (Y.2 = 1)) (fun y1 => ?_) (fun y1 => ?_)
 rotate_left
 ·have e2 : ((Y.2 : Int) = 1) = False := eq_false (by omega)
  rw [if_neg (fun q => y1 q.2.1)] at hR
  refine ACall.told hf3 ?_
  rintro r m2 ⟨rfl,rfl⟩
  simp(maxSteps:=9^9)only[↓VX,VQ,seval,e1,e2,hzz]
  exact ⟨fun q => ⟨m,hsub,by rw [hR,if_pos q],rfl⟩,fun q => ⟨m,hsub,by rw [hR,if_neg q],rfl⟩⟩
 have e2 : ((Y.2 : Int) = 1) = True := eq_true (by omega)
 refine Or.elim (Decidable.em (X.1 = Y.1)) (fun z1 => ?_) (fun z1 => ?_)
 ·rw [if_pos ⟨x1,y1,z1⟩] at hR
  rw [decide_eq_true z1] at heq hsm
  refine ACall.told hf3 ?_
  rintro r m2 ⟨rfl,rfl⟩
  simp(maxSteps:=9^9)only[↓VX,VQ,seval,e1,e2,hzz]
  refine ⟨by rw [hsm]; exact heq,?_⟩
  rw [hsm]
  simp(maxSteps:=9^9)only[↓VX,VQ,seval,hzz]
  exact ⟨m,hsub,by rw [hR],rfl⟩
 ·rw [if_neg (fun q => z1 q.2.2)] at hR
  rw [decide_eq_false z1] at heq hsm
  refine ACall.told hf3 ?_
  rintro r m2 ⟨rfl,rfl⟩
  simp(maxSteps:=9^9)only[↓VX,VQ,seval,e1,e2,hzz]
  refine ⟨by rw [hsm]; exact heq,?_⟩
  rw [hsm]
  simp(maxSteps:=9^9)only[↓VX,VQ,seval,hzz]
  exact ⟨fun q => ⟨m,hsub,by rw [hR,if_pos q],rfl⟩,fun q => ⟨m,hsub,by rw [hR,if_neg q],rfl⟩⟩
def setN (l : List Int) : Nat := l.foldl (fun s n => s ||| 2 ^ n.toNat) 0
def lastN (l : List Int) : Int := l.foldl (fun _ n => n) (-1)
theorem bitsOf_fold : ∀ (l : List Int) {s : Nat} {S : List Nat},BitsOf s S → BitsOf (l.foldl (fun s n => s ||| 2 ^ n.toNat) s) (S ++ natsI l)
 | [],s,S,h => by
  rw [show natsI [] = [] from rfl,List.append_nil]; exact h
 | n :: l,s,S,h => by
  have := bitsOf_fold l (bitsOf_or h n.toNat)
  rw [List.append_assoc] at this
  exact this
theorem bitsOf_set (l : List Int) : BitsOf (setN l) (natsI l) := bitsOf_fold l (s := 0) (S := []) ⟨by simp⟩
theorem setN_snoc (l : List Int) (n : Int) : setN (l ++ [n]) = setN l ||| 2 ^ n.toNat := by unfold setN; rw [List.foldl_append]; rfl
theorem lastN_snoc (l : List Int) (n : Int) : lastN (l ++ [n]) = n := by unfold lastN; rw [List.foldl_append]; rfl
theorem setN_zero (l : List Int) : setN l = 0 ↔ l = [] := by
 constructor
 ·intro h
  cases l with
  | nil => rfl
  | cons n l =>
   have := ((bitsOf_set (n :: l)).b n.toNat).2 (by simp [natsI])
   rw [h] at this
   simp at this
 ·rintro rfl; rfl
theorem common_c (b : REar) (hf : earFit b) (hn : KeysFit b) (l : List Int) (hp : (firstH b (natsI l)).2 ≠ 0 → 0 < (firstH b (natsI l)).1.length) : PCall Tryz.prog 78 [earA b,ints l] (.tuple [ints (commonR b l).1,.int .i64 (commonR b l).2]) := by
 intro m
 refine ACall.forget ?_
 have hen := fun h => earenter_c b hf b.spellings.length h l m
 obtain ⟨R,hR⟩ : ∃ R,R = commonR b l := ⟨_,rfl⟩
 rw [← hR]
 unfold commonR at hR
 obtain ⟨e,he⟩ : ∃ e,e = enterE1 b b.spellings.length l := ⟨_,rfl⟩
 have hez := enter_zero (b := b) (many := b.spellings.length) (l := l)
 rw [← he] at hen hR hez
 simp only [earA,earL,bookL,ints,heardA,heardL,List.map_cons,List.map_nil] at hen ⊢
 (refine acall_intro (E := envC (modeAt [12] []) false []) (envCOk _ _ _) rfl Tryz.func78 rfl Tryz.call78 (by kernel_rfl) (by simp [Tryz.ntmps78]) ?_; simp only [Tryz.f78];  simp(maxSteps:=9^9)only[↓VX,VQ,seval,])
 intro hlen
 refine ACall.told (hen hlen) ?_
 rintro r m' (⟨h0,rfl,rfl⟩ | ⟨h0,hek,bm,hbm,rfl,hmb,hkeep⟩)
 ·have h1 : (e = 0) = False := eq_false h0
  rw [if_pos h0] at hR
  simp(maxSteps:=9^9)only[↓VX,VQ,seval,h1]
  subst hR
  exact ⟨_,fun _ _ q => q,rfl,rfl⟩
 have h1 : (e = 0) = True := eq_true h0
 have hsub := keep_sub hbm hkeep
 rw [if_neg (fun q => q h0)] at hR
 obtain ⟨hc0,hal⟩ := hez h0
 have hb5 := hek.s
 simp(maxSteps:=9^9)only[↓VX,VQ,seval,h1]
 intro hll
 refine aloop (envCOk _ _ _) (fun i : Nat => ⟨[(6,.v (.eptr [.int .i64 b.sounds,.slice 2 (b.alphabets.map alphA),.slice 2 (b.spellings.map spelA),.map bm])),(8,.v (.int .i64 (setN (l.take i)))),(9,.v (.int .i64 (lastN (l.take i)))),(26,.v (.slice 1 (l.map (AV.int .i64)))),(27,.v (.int .i64 l.length)),(28,.v (.int .i64 i))],[],[],m'⟩)
  (fun i => i ≤ l.length ∧ risesI (-1) l = risesI (lastN (l.take i)) (l.drop i)) (fun i => l.length - i) 0 (fun _ => rfl) ⟨Nat.zero_le _,rfl⟩ (by (simp only [FE,↓FP,seval]); repeat' (first | rfl | apply And.intro)) ?_
 rintro i ⟨hi,hri⟩
 have hlt32 : ∀ k,setN (l.take k) < 32 := fun k => bitsOf_lt (bitsOf_set _) fun j hj => by
  obtain ⟨z,hz,rfl⟩ := List.mem_map.1 hj
  have := hal z (List.mem_of_mem_take hz)
  omega
 by_cases hil : i < l.length
 ·have z1 : ((i : Int) < (l.length : Int)) = True := eq_true (by omega)
  obtain ⟨z,hz⟩ : ∃ z,z = l[i]! := ⟨_,rfl⟩
  have hzi : l[i] = z := by rw [hz,getElem!_pos l i hil]
  have hzr := hal z (by rw [← hzi]; exact List.getElem_mem hil)
  have htk : l.take (i + 1) = l.take i ++ [z] := by rw [← hzi,List.take_succ_eq_append_getElem hil]
  rw [List.drop_eq_getElem_cons hil,hzi,risesI] at hri
  have h1s := setN_snoc (l.take i) z
  have h1l := lastN_snoc (l.take i) z
  rw [← htk] at h1s h1l
  have h32 := hlt32 i
  obtain ⟨k,rfl⟩ : ∃ k : Nat,z = (k : Int) := ⟨z.toNat,by omega⟩
  have h2k : 2 ^ k ≤ 16 := Nat.pow_le_pow_right (n := 2) (by decide) (show k ≤ 4 by omega)
  generalize setN (l.take i) = S0 at *
  generalize lastN (l.take i) = L0 at *
  refine Or.elim (Decidable.em (L0 < (k : Int))) (fun q => ?_) (fun q => ?_)
  ·have zq : ((k : Int) ≤ L0) = False := eq_false (by omega)
   rw [decide_eq_true q,Bool.true_and] at hri
   simp(maxSteps:=9^9)only[↓VX,VQ,seval,z1,↓ixZ,← hz,zq]
   refine ⟨⟨by omega,hil⟩,⟨by omega,by omega,Int.le_trans (by decide) (Int.natCast_nonneg _),Int.le_trans (Int.ofNat_le.2 h2k) (by decide)⟩,
    ⟨⟨Int.natCast_nonneg _,Int.le_trans (Int.ofNat_le.2 (Nat.le_of_lt h32)) (by decide)⟩,Int.natCast_nonneg _,Int.le_trans (Int.ofNat_le.2 h2k) (by decide)⟩,⟨by omega,by omega⟩,i + 1,⟨by omega,by rw [h1l]; exact hri⟩,by dsimp only; omega,?_⟩
   (simp only [FE,↓FP,seval])
   rw [h1s,h1l]
   repeat' (first | rfl | apply And.intro)
  ·have zq : ((k : Int) ≤ L0) = True := eq_true (by omega)
   rw [decide_eq_false q,Bool.false_and] at hri
   rw [if_pos (.inl hri)] at hR
   simp(maxSteps:=9^9)only[↓VX,VQ,seval,z1,↓ixZ,← hz,zq]
   exact ⟨⟨by omega,hil⟩,m,hsub,by rw [hR]; rfl,rfl⟩
 ·have z1 : ((i : Int) < (l.length : Int)) = False := eq_false (by omega)
  obtain rfl : i = l.length := by omega
  rw [List.take_length,List.drop_length] at hri
  have hri : risesI (-1) l = true := hri
  rw [List.take_length]
  have h32 := hlt32 l.length
  rw [List.take_length] at h32
  have hzz : ((setN l : Int) = 0) = (l = []) := propext ⟨fun q => (setN_zero l).1 (by omega),fun q => by rw [(setN_zero l).2 q]; rfl⟩
  have hfi := firstS_c b hek hn bm (S := natsI l) (fun j hj => by
   obtain ⟨z,hz,rfl⟩ := List.mem_map.1 hj
   have := hal z hz
   omega) (bitsOf_set l) m' hmb
  simp only [bookL,heardA,heardL] at hfi
  refine Or.elim (Decidable.em (l = [])) (fun q => ?_) (fun q => ?_)
  ·have zl : (l = []) = True := eq_true q
   rw [if_pos (.inr q)] at hR
   simp(maxSteps:=9^9)only[↓VX,VQ,seval,z1,hzz,zl]
   exact ⟨m,hsub,by rw [hR]; rfl,rfl⟩
  have zl : (l = []) = False := eq_false q
  rw [if_neg (by rintro (e | e); (· rw [hri] at e; cases e); exact q e)] at hR
  have hF5 : (firstH b (natsI l)).1.length ≤ 5 := all_len hek (natsI l)
  generalize firstH b (natsI l) = F at *
  refine Or.elim (Decidable.em (F.2 = 0)) (fun q2 => ?_) (fun q2 => ?_)
  ·have zf : ((F.2 : Int) = 0) = True := eq_true (by omega)
   rw [if_pos q2] at hR
   simp(maxSteps:=9^9)only[↓VX,VQ,seval,z1,hzz,zl]
   refine ACall.told hfi ?_
   rintro r m2 ⟨rfl,rfl⟩
   simp(maxSteps:=9^9)only[↓VX,VQ,seval,zf]
   exact ⟨m,hsub,by rw [hR]; rfl,rfl⟩
  ·have zf : ((F.2 : Int) = 0) = False := eq_false (by omega)
   rw [if_neg q2] at hR
   have hli := heardlist_c F.1 (hp q2) hF5
   simp only [heardA,heardL,ints] at hli
   simp(maxSteps:=9^9)only[↓VX,VQ,seval,z1,hzz,zl]
   refine ACall.told hfi ?_
   rintro r m2 ⟨rfl,rfl⟩
   simp(maxSteps:=9^9)only[↓VX,VQ,seval,zf]
   (refine ACall.pure (hli) ?_; try simp(maxSteps:=9^9)only[↓VX,VQ,seval])
   exact ⟨m,hsub,by rw [hR],rfl⟩
def oddB (p : KB) (n : Nat) (x : List Nat) : List Nat := numsB (natAndNot (2 ^ n - 1) (p.2 x)) n
theorem nums_full (n : Nat) : numsB (2 ^ n - 1) n = List.range n := by
 unfold numsB
 rw [List.filter_eq_self]
 intro i hi
 rw [List.mem_range] at hi
 rw [Nat.testBit_two_pow_sub_one]; exact decide_eq_true hi
theorem odd_of {b : REar} (x : List Nat) : oddB (lookTo b b.spellings.length) b.spellings.length x = oddOf b x := by
 unfold oddB numsB oddOf
 refine List.filter_congr fun i hi => ?_
 rw [List.mem_range] at hi
 have h1 : natAndNot (2 ^ b.spellings.length - 1) ((lookTo b b.spellings.length).2 x) = (2 ^ b.spellings.length - 1) ^^^ ((2 ^ b.spellings.length - 1) &&& (lookTo b b.spellings.length).2 x) := rfl
 rw [h1,Nat.testBit_xor,Nat.testBit_and,Nat.testBit_two_pow_sub_one,look_bit,decide_eq_true hi]
 cases ofH b x i <;> rfl
theorem odd_lt (_p : KB) {n : Nat} (hn : n ≤ 5) (v : Nat) (hv : v < 32) : natAndNot (2 ^ n - 1) v < 32 := by
 have h1 : natAndNot (2 ^ n - 1) v = (2 ^ n - 1) ^^^ ((2 ^ n - 1) &&& v) := rfl
 have h2 : 2 ^ n - 1 < 2 ^ 5 := by
  have := Nat.pow_le_pow_right (n := 2) (by decide) hn
  have h3 : 0 < 2 ^ n := Nat.pow_pos (by decide)
  omega
 rw [h1]
 exact Nat.xor_lt_two_pow (n := 5) h2 (Nat.and_lt_two_pow _ (n := 5) hv)
def bestB (p : KB) (n : Nat) (K : List (List Nat)) : List Nat := leastH (List.range n :: K.map (oddB p n))
theorem best_snoc (p : KB) (n : Nat) (K : List (List Nat)) (x : List Nat) : bestB p n (K ++ [x]) = if beforeH (oddB p n x) (bestB p n K) = true then oddB p n x else bestB p n K := by
 unfold bestB
 rw [List.map_append,List.map_singleton,← List.cons_append,least_snoc]
 by_cases q : beforeH (oddB p n x) (leastH (List.range n :: K.map (oddB p n))) = true
 ·rw [if_pos q,if_pos (.inr q)]
 ·rw [if_neg q,if_neg (by rintro (e | e); (· simp at e); exact q e)]
theorem best_all {p : KB} {n : Nat} {K K' : List (List Nat)} (h : ∀ x,x ∈ K ↔ x ∈ K') : bestB p n K = bestB p n K' := by
 refine least_same fun x => ?_
 rw [List.mem_cons,List.mem_cons,List.mem_map,List.mem_map]
 exact or_congr Iff.rfl ⟨fun ⟨y,h1,h2⟩ => ⟨y,(h y).1 h1,h2⟩,fun ⟨y,h1,h2⟩ => ⟨y,(h y).2 h1,h2⟩⟩
theorem odd_best (b : REar) : ((keysOf b).map (oddOf b)).foldl (fun x l => if beforeH l x = true then l else x) (List.range b.spellings.length) = bestB (lookTo b b.spellings.length) b.spellings.length (lookTo b b.spellings.length).1 := by
 have h : keysOf b = (lookTo b b.spellings.length).1 := (keys_look b _).symm
 rw [h]
 unfold bestB
 rw [List.map_congr_left fun x _ => (odd_of (b := b) x).symm]
 rfl
theorem lexC_nat {s t : List Nat} (h : s.length = t.length) : decide (lexC (intsN s) (intsN t) < 0) = lexN s t := by
 have := lexC_lexN [] h
 rwa [List.append_nil,List.append_nil] at this
theorem odd_c (b : REar) (hf : earFit b) (hn : KeysFit b) : PCall Tryz.prog 79 [earA b] (.tuple [ints (oddR b).1,.int .i64 (oddR b).2]) := by
 intro m
 refine ACall.forget ?_
 have hen := earenter_c b hf 0 (by omega) [] m
 obtain ⟨R,hR⟩ : ∃ R,R = oddR b := ⟨_,rfl⟩
 rw [← hR]
 unfold oddR at hR
 obtain ⟨e,he⟩ : ∃ e,e = enterE1 b 0 [] := ⟨_,rfl⟩
 have hez := enter_zero (b := b) (many := 0) (l := [])
 have hee : e = (checkE b).2.2 := by
  rw [he]
  unfold enterE1
  split
  ·rfl
  ·rename_i q
   rw [List.any_nil,if_neg (by simp)]
   exact (Decidable.of_not_not q).symm
 rw [← he] at hen hez
 rw [← hee] at hR
 simp only [earA,earL,bookL,ints,heardA,heardL,List.map_cons,List.map_nil,Int.natCast_zero] at hen ⊢
 (refine acall_intro (E := envC (modeAt [] []) false [6,7,8]) (envCOk _ _ _) rfl Tryz.func79 rfl Tryz.call79 (by kernel_rfl) (by simp [Tryz.ntmps79]) ?_; simp only [Tryz.f79];  simp(maxSteps:=9^9)only[↓VX,VQ,seval,])
 refine ACall.told hen ?_
 rintro r m' (⟨h0,rfl,rfl⟩ | ⟨h0,hek,bm,hbm,rfl,hmb,hkeep⟩)
 ·have h1 : (e = 0) = False := eq_false h0
  rw [if_pos h0] at hR
  simp(maxSteps:=9^9)only[↓VX,VQ,seval,h1]
  subst hR
  exact ⟨_,fun _ _ q => q,rfl,rfl⟩
 have h1 : (e = 0) = True := eq_true h0
 have hsub := keep_sub hbm hkeep
 rw [if_neg (fun q => q h0)] at hR
 have hb5 := hek.s
 obtain ⟨n,hnn⟩ : ∃ n,n = b.spellings.length := ⟨_,rfl⟩
 obtain ⟨p,hpp⟩ : ∃ p,p = lookTo b b.spellings.length := ⟨_,rfl⟩
 have hpo := bok_look hek (Nat.le_refl b.spellings.length)
 have hpn := hn.n
 rw [odd_best b,← hpp,← hnn] at hR
 rw [← hpp] at hmb hpo hpn
 rw [← hnn] at hb5
 have hP1 : 1 ≤ 2 ^ n := Nat.pow_pos (by decide)
 have hP32 : 2 ^ n ≤ 32 := Nat.pow_le_pow_right (n := 2) (by decide) hb5
 have hnf := numbers_c (2 ^ n - 1) n (by omega) hb5
 rw [nums_full] at hnf
 simp only [ints] at hnf
 have hcast : ((2 ^ n : Nat) : Int) - 1 = ((2 ^ n - 1 : Nat) : Int) := by omega
 have hbmm : ∀ k x,m k = some x → k ≠ bm := fun k x hk e => by rw [e,hbm] at hk; cases hk
 simp(maxSteps:=9^9)only[↓VX,VQ,seval,h1,← hnn,hcast]
 intro _
 refine ⟨⟨by omega,by omega,Int.le_trans (by decide) (Int.natCast_nonneg _),Int.le_trans (Int.ofNat_le.2 hP32) (by decide)⟩,⟨Int.le_trans (by decide) (Int.natCast_nonneg _),Int.le_trans (Int.ofNat_le.2 (show 2 ^ n - 1 ≤ 32 by omega)) (by decide)⟩,?_⟩
 refine ACall.pure hnf ?_
 have hmb' : m' bm = some (.mapS (kvB p) (List.range p.1.length) p.1.length) := hmb
 simp(maxSteps:=9^9)only[↓VX,VQ,seval]
 refine acut_at_k 4 (envCOk _ _ _) (V := vcX _) (fun h hd _ _ _ hi hf hs _ _ _ hn => vcX_sound (envCOk _ _ _) h hd hi hf hs hn) rfl rfl (fun bi : Nat => ⟨[(6,.v (.int .i64 n)),(7,.v (.slice 1 ((intsN (List.range n)).map (AV.int .i64)))),(31,.v (.ptr bi 0))],[],[],upd m' bi (some (.miter bm p.1.length [] p.1.length))⟩) (fun bi => m' bi = none) (fun _ => rfl) ?_ ?_
 ·show vcOps _ _ (_ :: _) _ _
  simp(maxSteps:=9^9)only[↓VX,VQ,seval,List.take_succ_cons,List.take_zero,vcX,evX,hmb']
  intro bi hbi
  refine ⟨bi,hbi,?_⟩
  (simp only [FE,↓FP,seval])
  repeat' (first | rfl | apply And.intro)
 rintro bi hbi
 have hbb : bi ≠ bm := by rintro rfl; rw [hbi] at hmb'; cases hmb'
 simp(maxSteps:=9^9)only[↓VX,VQ,seval]
 refine aloop (envCOk _ _ _) (fun q : List Nat × List (List Nat) => ⟨[(6,.v (.int .i64 n)),(7,.v (.slice 1 ((intsN (bestB p n q.2)).map (AV.int .i64)))),(31,.v (.ptr bi 0))],[],[],upd m' bi (some (.miter bm p.1.length q.1 p.1.length))⟩)
  (fun q => MetB p 0 q.1 q.2) (fun q => p.1.length - q.1.length) ([],[]) (fun _ => rfl) (met_nil p 0) (by (simp only [FE,↓FP,seval]); repeat' (first | rfl | apply And.intro)) ?_
 rintro ⟨seen,K⟩ hmet
 dsimp only at hmet ⊢
 obtain ⟨hsl,hKl⟩ := met_len hmet
 obtain ⟨M,hM⟩ : ∃ M : Mem,M = upd m' bi (some (.miter bm p.1.length seen p.1.length)) := ⟨_,rfl⟩
 have hMi : M bi = some (.miter bm p.1.length seen p.1.length) := by rw [hM,upd_same]
 have hMb : M bm = some (.mapS (kvB p) (List.range p.1.length) p.1.length) := by rw [hM,upd_ne _ _ (Ne.symm hbb)]; exact hmb'
 rw [← hM]
 obtain ⟨B,hB⟩ : ∃ B,B = bestB p n K := ⟨_,rfl⟩
 rw [← hB]
 simp(maxSteps:=9^9)only[↓VX,VQ,seval]
 refine acut_at_k 0 (envCOk _ _ _) (V := vcX _) (fun h hd _ _ _ hi hf hs _ _ _ hn => vcX_sound (envCOk _ _ _) h hd hi hf hs hn) rfl rfl (fun o : Option Nat => match o with
  | none => ⟨[(6,.v (.int .i64 n)),(7,.v (.slice 1 ((intsN B).map (AV.int .i64)))),(31,.v (.ptr bi 0)),(33,.v (.bool false))],[],[],M⟩
  | some s => ⟨[(6,.v (.int .i64 n)),(7,.v (.slice 1 ((intsN B).map (AV.int .i64)))),(31,.v (.ptr bi 0)),(33,.v (.bool true))],[],[],upd m' bi (some (.miter bm p.1.length (seen ++ [s]) p.1.length))⟩)
  (fun o => match o with
  | none => ∀ i,i < p.1.length → i ∈ seen
  | some s => s ∉ seen ∧ s < p.1.length) (fun o => by cases o <;> rfl) ?_ ?_
 ·show vcOps _ _ [] _ _
  simp(maxSteps:=9^9)only[↓VX,VQ,seval,List.take_succ_cons,List.take_zero,vcX,evX,hMi,hMb]
  refine ⟨⟨fun x hx => List.mem_range.1 hx,Nat.le_refl _⟩,fun hall => ⟨none,fun i hi => hall i (List.mem_range.2 hi),?_⟩,fun j s p' hj hs hp' => ⟨some s,⟨hs,List.mem_range.1 (List.mem_of_getElem? hj)⟩,?_⟩⟩
  ·(simp only [FE,↓FP,seval])
   repeat' (first | rfl | apply And.intro)
  ·(simp only [FE,↓FP,seval])
   rw [hM,upd_upd]
   repeat' (first | rfl | apply And.intro)
 rintro o ho
 cases o with
 | none =>
  have hbk : bestB p n K = bestB p n p.1 := best_all fun x => by
   rw [hmet.m]
   constructor
   ·rintro ⟨i,_,g1,_⟩
    exact List.mem_of_getElem? g1
   ·intro g
    obtain ⟨i,hi,rfl⟩ := List.getElem_of_mem g
    exact ⟨i,ho i hi,List.getElem?_eq_getElem hi,Nat.and_zero _⟩
  dsimp only
  simp(maxSteps:=9^9)only[↓VX,VQ,seval]
  refine ⟨m,fun k y hk => ?_,?_,rfl⟩
  ·have h1 := hsub k y hk
   rw [hM,upd_ne _ _ (by rintro rfl; rw [hbi] at h1; cases h1)]; exact h1
  ·rw [hB,hbk,hR]
 | some s =>
  obtain ⟨hs1,hs2⟩ := ho
  obtain ⟨x,hx⟩ : ∃ x,p.1[s]? = some x := ⟨_,List.getElem?_eq_getElem hs2⟩
  have hsn := met_snoc hpo hmet hx hs1
  rw [if_pos (Nat.and_zero _)] at hsn
  dsimp only
  obtain ⟨M2,hM2⟩ : ∃ M2 : Mem,M2 = upd m' bi (some (.miter bm p.1.length (seen ++ [s]) p.1.length)) := ⟨_,rfl⟩
  have hMi2 : M2 bi = some (.miter bm p.1.length (seen ++ [s]) p.1.length) := by rw [hM2,upd_same]
  have hMb2 : M2 bm = some (.mapS (kvB p) (List.range p.1.length) p.1.length) := by rw [hM2,upd_ne _ _ (Ne.symm hbb)]; exact hmb'
  rw [← hM2]
  simp(maxSteps:=9^9)only[↓VX,VQ,seval]
  refine acut_at_k 0 (envCOk _ _ _) (V := vcX _) (fun h hd _ _ _ hi hf hs _ _ _ hn => vcX_sound (envCOk _ _ _) h hd hi hf hs hn) rfl rfl (fun _ : Unit => ⟨[(6,.v (.int .i64 n)),(7,.v (.slice 1 ((intsN B).map (AV.int .i64)))),(9,.v (.int .i64 (p.2 x))),(31,.v (.ptr bi 0))],[],[],M2⟩) (fun _ => True) (fun _ => rfl) ?_ ?_
  ·show vcOps _ _ [] _ _
   simp(maxSteps:=9^9)only[↓VX,VQ,seval,List.take_succ_cons,List.take_zero,vcX,evX,hMi2,hMb2]
   refine ⟨List.nodup_range,s,s,(heardA x,valB p x),by simp,List.getElem?_range hs2,by unfold kvB; rw [List.getElem?_map,hx]; rfl,?_⟩
   dsimp only [heardA,valB]
   (simp only [FE,↓FP,seval])
   exact ⟨(),trivial⟩
  rintro _ _
  have hv32 := hpo.b x
  have hbs := best_snoc p n K x
  rw [← hB] at hbs
  have hno := numbers_c (natAndNot (2 ^ n - 1) (p.2 x)) n (odd_lt p hb5 _ hv32) hb5
  obtain ⟨O,hO⟩ : ∃ O,O = oddB p n x := ⟨_,rfl⟩
  have hno : PCall Tryz.prog 131 [.int .i64 (natAndNot (2 ^ n - 1) (p.2 x)),.int .i64 n] (.slice 1 ((intsN O).map (AV.int .i64))) := by rw [hO]; exact hno
  rw [← hO] at hbs
  have hcm := icompare_c (intsN O) (intsN B)
  have hln : O.length = B.length → decide (lexC (intsN O) (intsN B) < 0) = lexN O B := lexC_nat
  have hil : ∀ l : List Nat,(intsN l).length = l.length := fun l => by simp [intsN]
  have hsl2 : p.1.length - (seen ++ [s]).length < p.1.length - seen.length := by
   have := (met_len hsn).1
   rw [List.length_append,List.length_singleton] at this ⊢
   omega
  have hnat : ((2 ^ n - 1 : Nat) : Int).toNat = 2 ^ n - 1 := Int.toNat_natCast _
  simp only [ints] at hcm
  unfold beforeH at hbs
  refine Or.elim (Decidable.em (O.length < B.length)) (fun q1 => ?_) (fun q1 => ?_)
  ·have z1 : ((O.length : Int) < (B.length : Int)) = True := eq_true (by omega)
   rw [if_neg (show ¬ O.length = B.length by omega),if_pos (decide_eq_true q1)] at hbs
   simp(maxSteps:=9^9)only[↓VX,VQ,seval,hcast,hil]
   refine ⟨⟨by omega,by omega,Int.le_trans (by decide) (Int.natCast_nonneg _),Int.le_trans (Int.ofNat_le.2 hP32) (by decide)⟩,⟨Int.le_trans (by decide) (Int.natCast_nonneg _),Int.le_trans (Int.ofNat_le.2 (show 2 ^ n - 1 ≤ 32 by omega)) (by decide)⟩,
    ⟨⟨Int.natCast_nonneg _,Int.le_trans (Int.ofNat_le.2 (show 2 ^ n - 1 ≤ 32 by omega)) (by decide)⟩,Int.natCast_nonneg _,Int.le_trans (Int.ofNat_le.2 (Nat.le_of_lt hv32)) (by decide)⟩,?_⟩
   refine ACall.pure hno ?_
   simp(maxSteps:=9^9)only[↓VX,VQ,seval,hil,z1]
   intro _ _
   refine ⟨(seen ++ [s],K ++ [x]),hsn,hsl2,?_⟩
   (simp only [FE,↓FP,seval])
   rw [hbs,← hM2]
   repeat' (first | rfl | apply And.intro)
  have z1 : ((O.length : Int) < (B.length : Int)) = False := eq_false (by omega)
  refine Or.elim (Decidable.em (O.length = B.length)) (fun q2 => ?_) (fun q2 => ?_)
  rotate_left
  ·have z2 : ((O.length : Int) = (B.length : Int)) = False := eq_false (by omega)
   rw [if_neg q2,if_neg (fun e => q1 (of_decide_eq_true e))] at hbs
   simp(maxSteps:=9^9)only[↓VX,VQ,seval,hcast,hil]
   refine ⟨⟨by omega,by omega,Int.le_trans (by decide) (Int.natCast_nonneg _),Int.le_trans (Int.ofNat_le.2 hP32) (by decide)⟩,⟨Int.le_trans (by decide) (Int.natCast_nonneg _),Int.le_trans (Int.ofNat_le.2 (show 2 ^ n - 1 ≤ 32 by omega)) (by decide)⟩,
    ⟨⟨Int.natCast_nonneg _,Int.le_trans (Int.ofNat_le.2 (show 2 ^ n - 1 ≤ 32 by omega)) (by decide)⟩,Int.natCast_nonneg _,Int.le_trans (Int.ofNat_le.2 (Nat.le_of_lt hv32)) (by decide)⟩,?_⟩
   refine ACall.pure hno ?_
   simp(maxSteps:=9^9)only[↓VX,VQ,seval,hil,z1,z2]
   intro _ _ _ _
   refine ⟨(seen ++ [s],K ++ [x]),hsn,hsl2,?_⟩
   (simp only [FE,↓FP,seval])
   rw [hbs,← hM2]
   repeat' (first | rfl | apply And.intro)
  have z2 : ((O.length : Int) = (B.length : Int)) = True := eq_true (by omega)
  rw [if_pos q2,← hln q2] at hbs
  refine Or.elim (Decidable.em (lexC (intsN O) (intsN B) < 0)) (fun q3 => ?_) (fun q3 => ?_)
  ·have z3 : (lexC (intsN O) (intsN B) < 0) = True := eq_true q3
   rw [if_pos (decide_eq_true q3)] at hbs
   simp(maxSteps:=9^9)only[↓VX,VQ,seval,hcast,hil]
   refine ⟨⟨by omega,by omega,Int.le_trans (by decide) (Int.natCast_nonneg _),Int.le_trans (Int.ofNat_le.2 hP32) (by decide)⟩,⟨Int.le_trans (by decide) (Int.natCast_nonneg _),Int.le_trans (Int.ofNat_le.2 (show 2 ^ n - 1 ≤ 32 by omega)) (by decide)⟩,
    ⟨⟨Int.natCast_nonneg _,Int.le_trans (Int.ofNat_le.2 (show 2 ^ n - 1 ≤ 32 by omega)) (by decide)⟩,Int.natCast_nonneg _,Int.le_trans (Int.ofNat_le.2 (Nat.le_of_lt hv32)) (by decide)⟩,?_⟩
   refine ACall.pure hno ?_
   simp(maxSteps:=9^9)only[↓VX,VQ,seval,hil,z1,z2]
   intro _ _ _ _
   refine ACall.pure hcm ?_
   simp(maxSteps:=9^9)only[↓VX,VQ,seval,z3]
   refine ⟨(seen ++ [s],K ++ [x]),hsn,hsl2,?_⟩
   (simp only [FE,↓FP,seval])
   rw [hbs,← hM2]
   repeat' (first | rfl | apply And.intro)
  ·have z3 : (lexC (intsN O) (intsN B) < 0) = False := eq_false q3
   rw [if_neg (fun e => q3 (of_decide_eq_true e))] at hbs
   simp(maxSteps:=9^9)only[↓VX,VQ,seval,hcast,hil]
   refine ⟨⟨by omega,by omega,Int.le_trans (by decide) (Int.natCast_nonneg _),Int.le_trans (Int.ofNat_le.2 hP32) (by decide)⟩,⟨Int.le_trans (by decide) (Int.natCast_nonneg _),Int.le_trans (Int.ofNat_le.2 (show 2 ^ n - 1 ≤ 32 by omega)) (by decide)⟩,
    ⟨⟨Int.natCast_nonneg _,Int.le_trans (Int.ofNat_le.2 (show 2 ^ n - 1 ≤ 32 by omega)) (by decide)⟩,Int.natCast_nonneg _,Int.le_trans (Int.ofNat_le.2 (Nat.le_of_lt hv32)) (by decide)⟩,?_⟩
   refine ACall.pure hno ?_
   simp(maxSteps:=9^9)only[↓VX,VQ,seval,hil,z1,z2]
   intro _ _ _ _
   refine ACall.pure hcm ?_
   simp(maxSteps:=9^9)only[↓VX,VQ,seval,z3]
   refine ⟨(seen ++ [s],K ++ [x]),hsn,hsl2,?_⟩
   (simp only [FE,↓FP,seval])
   rw [hbs,← hM2]
   repeat' (first | rfl | apply And.intro)
end Go.Proofs.YtdmejgfcaacdoaaGreat.Abs
