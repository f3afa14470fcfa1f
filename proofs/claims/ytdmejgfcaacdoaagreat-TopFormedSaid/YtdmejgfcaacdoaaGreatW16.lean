/- Lemmas for the statements of this seat (W16): they hold without conditions beyond those that each one states. -/
import Derived.Test.YtdmejgfcaacdoaaGreatW15
/- Contracts: look,enter. -/
namespace Go.Proofs.YtdmejgfcaacdoaaGreat.Abs
set_option linter.unusedSimpArgs false
set_option maxHeartbeats 4000000
set_option maxRecDepth 100000
open Go Go.RowKit Go.Proofs
def vw (v : VChest) (i p : Nat) : Nat := if p < v.people.length then setOf (fun i => (v.copies[i]!).may.testBit p) i else 0
theorem vw_zero (v : VChest) (p : Nat) : vw v 0 p = 0 := by simp [vw,setOf]
theorem vw_succ (v : VChest) (i p : Nat) (hp : p < v.people.length) : vw v (i + 1) p = if (v.copies[i]!).may.testBit p = true then vw v i p ||| 2 ^ i else vw v i p := by
 unfold vw; rw [if_pos hp,if_pos hp]; rfl
theorem vw_out (v : VChest) (i j p : Nat) (hp : ¬ p < v.people.length) : vw v i p = vw v j p := by
 unfold vw; rw [if_neg hp,if_neg hp]
theorem vw_lt (v : VChest) (i p : Nat) : vw v i p < 2 ^ i := by
 unfold vw; split
 ·exact setOf_lt _ _
 ·exact Nat.pow_pos (by decide)
def seenAt (v : VChest) (b : Nat) (x y z : Nat) : List AV := [.int .i64 v.words,.int .i64 v.facts,.slice 1 (v.people.map AV.str),.int .i64 v.last,.slice 4 (v.copies.map vcopyA),.slice 2 (v.rules.map vruleA),
 .int .i64 x,.int .i64 y,.int .i64 z,.map b]
def half (v : VChest) (i p q : Nat) : Nat := if q < p then vw v (i + 1) q else vw v i q
theorem look_c (v : VChest) (hv : VOk v) (m : Mem) : ACall Tryz.prog 104 [vchestA v] m fun r m' => ∃ b,m b = none ∧ r = .eptr (seenL v b) ∧ m' = upd m b (some (.map [])) := by
 have hc := hv.c
 have hp3 := hv.p
 simp only [vchestA,vchestL,strs]
 (refine acall_intro (E := envC (modeAt [5,10] []) false []) (envCOk _ _ _) rfl Tryz.func104 rfl Tryz.call104 (by kernel_rfl) (by simp [Tryz.ntmps104]) ?_; simp only [Tryz.f104];  simp(maxSteps:=9^9)only[↓VP,VQ,seval])
 intro b hb _
 refine aloop (envCOk _ _ _) (fun i : Nat => ⟨[(1,.v (.eptr [.int .i64 v.words,.int .i64 v.facts,.slice 1 (v.people.map AV.str),.int .i64 v.last,.slice 4 (v.copies.map vcopyA),.slice 2 (v.rules.map vruleA)])),
   (3,.loc 10 0),(12,.v (.slice 4 (v.copies.map vcopyA))),(13,.v (.int .i64 v.copies.length)),(14,.v (.int .i64 i))],[],[(10,seenAt v b (vw v i 0) (vw v i 1) (vw v i 2))],upd m b (some (.map []))⟩)
  (fun i => i ≤ v.copies.length) (fun i => v.copies.length - i) 0 (fun _ => rfl) (by simp) (by (simp(maxSteps:=9^9)only[↓VP,VQ,seval,Fits,fitsV,fitsO,fitsL,seenAt]); simp [vw_zero]) ?_
 intro i hi
 simp only [seenAt]
 simp(maxSteps:=9^9)only[↓VP,VQ,seval,vcopyA]
 repeat'(first|intro _|apply And.intro)
 all_goals try first|omega|(simp only[LL];omega)|exact nlC (by decide) _|exact nbC rfl
 ·have hlt : i < v.copies.length := by omega
  refine aloop (envCOk _ _ _) (fun p : Nat => ⟨[(1,.v (.eptr [.int .i64 v.words,.int .i64 v.facts,.slice 1 (v.people.map AV.str),.int .i64 v.last,.slice 4 (v.copies.map vcopyA),.slice 2 (v.rules.map vruleA)])),
    (3,.loc 10 0),(4,.v (.int .i64 i)),(5,.loc 5 0),(12,.v (.slice 4 (v.copies.map vcopyA))),(13,.v (.int .i64 v.copies.length)),(14,.v (.int .i64 i)),(20,.v (.slice 1 (v.people.map AV.str))),(21,.v (.int .i64 v.people.length)),(22,.v (.int .i64 p))],[],
    [(10,seenAt v b (half v i p 0) (half v i p 1) (half v i p 2)),(5,[.int .i64 (v.copies[i]!).number,.int .i64 (v.copies[i]!).words,.int .i64 (v.copies[i]!).facts,.int .i64 (v.copies[i]!).may])],upd m b (some (.map []))⟩)
   (fun p => p ≤ v.people.length) (fun p => v.people.length - p) 0 (fun _ => rfl) (by simp) (by simp only [seenAt]; (simp only [FE,↓FP,seval]); try simp [half]) ?_
  intro p hp
  simp only [seenAt]
  have h0 := vw_lt v i p
  have h1 : 2 ^ i ≤ 2 ^ 6 := Nat.pow_le_pow_right (by decide) (by omega)
  have hm := (may_lt v hv hlt).1
  have hle : (v.copies[i]!).may / 2 ^ p ≤ (v.copies[i]!).may := Nat.div_le_self _ _
  simp(maxSteps:=9^9)only[↓VP,VQ,seval]
  repeat'(first|intro _|apply And.intro)
  all_goals try first|omega|(simp only[LL];omega)|exact nlC (by decide) _|exact nbC rfl
  ·have hb1 : (v.copies[i]!).may.testBit p = true := by assumption
   have hlp : p < v.people.length := by omega
   have hs := vw_succ v i p hlp
   rw [if_pos hb1] at hs
   have hpp : p = 0 ∨ p = 1 ∨ p = 2 := by omega
   rcases hpp with rfl | rfl | rfl
   all_goals
    refine adraw (envCOk _ _ _) mixed [⟨false,false,0⟩,⟨false,false,0⟩,⟨false,false,0⟩,⟨false,false,0⟩,⟨false,false,0⟩,⟨false,false,0⟩,⟨false,false,0⟩,⟨false,false,0⟩,⟨false,false,0⟩,⟨true,false,0⟩,⟨true,false,0⟩,⟨false,false,0⟩,⟨false,false,0⟩] (by kernel_rfl) ?_
    simp(maxSteps:=9^9)only[↓VP,VQ,seval,half]
    repeat'(first|intro _|apply And.intro)
    all_goals try first|omega|(simp only[LL];omega)|exact nlC (by decide) _|exact nbC rfl
   ·refine ⟨1,by dsimp only; omega,by dsimp only; omega,?_⟩
    (simp(maxSteps:=9^9)only[↓VP,VQ,seval,Fits,fitsV,fitsO,fitsL,seenAt,half])
    simp [hs]
   ·refine ⟨2,by dsimp only; omega,by dsimp only; omega,?_⟩
    (simp(maxSteps:=9^9)only[↓VP,VQ,seval,Fits,fitsV,fitsO,fitsL,seenAt,half])
    simp [hs]
   ·refine ⟨3,by dsimp only; omega,by dsimp only; omega,?_⟩
    (simp(maxSteps:=9^9)only[↓VP,VQ,seval,Fits,fitsV,fitsO,fitsL,seenAt,half])
    simp [hs]
  ·have hb1 : ¬ (v.copies[i]!).may.testBit p = true := by assumption
   have hlp : p < v.people.length := by omega
   have hs := vw_succ v i p hlp
   rw [if_neg hb1] at hs
   have hh : ∀ q,half v i (p + 1) q = half v i p q := fun q => by
    unfold half
    by_cases e : q = p
    ·subst e; simp [hs]
    ·have : q < p + 1 ↔ q < p := by omega
     simp [this]
   refine ⟨p + 1,by dsimp only; omega,by dsimp only; omega,?_⟩
   (simp(maxSteps:=9^9)only[↓VP,VQ,seval,Fits,fitsV,fitsO,fitsL,seenAt,hh])
   simp
  ·have hpe : p = v.people.length := by omega
   have hh : ∀ q,half v i p q = vw v (i + 1) q := fun q => by
    unfold half
    by_cases e : q < p
    ·rw [if_pos e]
    ·rw [if_neg e,vw_out v i (i + 1) q (by omega)]
   refine ⟨i + 1,by dsimp only; omega,by dsimp only; omega,?_⟩
   (simp(maxSteps:=9^9)only[↓VP,VQ,seval,Fits,fitsV,fitsO,fitsL,seenAt,hh])
   simp
 ·refine ⟨b,hb,?_,rfl⟩
  rw [show i = v.copies.length by omega]
  rfl
def pairsOff : List Int → Bool
 | n :: b :: r => offP 0 (b - 1) n || pairsOff r
 | _ => false
theorem pairsOff_drop {l : List Int} {j : Nat} (h : 2 * j + 1 < l.length) : pairsOff (l.drop (2 * j)) = (offP 0 (l[2 * j + 1]! - 1) l[2 * j]! || pairsOff (l.drop (2 * (j + 1)))) := by
 have h1 : 2 * j < l.length := by omega
 rw [List.drop_eq_getElem_cons h1,List.drop_eq_getElem_cons h,getD_idx h1,getD_idx h,pairsOff]
 rfl
theorem pairsOff_end {l : List Int} {j : Nat} (h : ¬ 2 * j + 1 < l.length) : pairsOff (l.drop (2 * j)) = false := by
 by_cases h1 : 2 * j < l.length
 ·rw [List.drop_eq_getElem_cons h1,List.drop_eq_nil_of_le (by omega)]; rfl
 ·rw [List.drop_eq_nil_of_le (by omega)]; rfl
def enterE (c : RChest) (l : List Int) : Int := if (checkR c).2.2 ≠ 0 then (checkR c).2.2 else if pairsOff l = true then 4 else 0
theorem enter_c (c : RChest) (hs : namesFit c) (l : List Int) (hlen : l.length ≤ 1000) (hlow : (checkR c).2.2 = 0 → ∀ j,2 * j + 1 < l.length → -9223372036854775000 ≤ l[2 * j + 1]! ∧ l[2 * j + 1]! ≤ 9223372036854775807) (m : Mem) : ACall Tryz.prog 47 [chestA c,ints l] m fun r m' =>
  (enterE c l ≠ 0 ∧ r = .tuple [.nilptr,.int .i64 (enterE c l)] ∧ m' = m) ∨ (enterE c l = 0 ∧ VOk c.v ∧ ∃ b,m b = none ∧ r = .tuple [.eptr (seenL c.v b),.int .i64 0] ∧ m' = upd m b (some (.map []))) := by
 have hchk := check_c c hs
 have hlook : (checkR c).2.2 = 0 → VOk c.v ∧ ∀ m,ACall Tryz.prog 104 [chestA c] m fun r m' => ∃ b,m b = none ∧ r = .eptr (seenL c.v b) ∧ m' = upd m b (some (.map [])) := fun h => by
  obtain ⟨h1,h2⟩ := valid_v h
  have := look_c c.v h2
  rw [← vchestA_raw,← h1] at this
  exact ⟨h2,this⟩
 simp only [chestA,chestL,strs] at hchk hlook ⊢
 have hE : enterE c l = if (checkR c).2.2 ≠ 0 then (checkR c).2.2 else if pairsOff l = true then 4 else 0 := rfl
 generalize hee : enterE c l = E at *
 generalize (checkR c).2.2 = e at *
 (refine acall_intro (E := env fun _ => .imm) (envOk _) rfl Tryz.func47 rfl Tryz.call47 (by kernel_rfl) (by simp [Tryz.ntmps47]) ?_; simp only [Tryz.f47];  simp(maxSteps:=9^9)only[↓VP,VQ,seval])
 (refine ACall.pure (hchk) ?_; try simp(maxSteps:=9^9)only[↓VP,VQ,seval])
 repeat'(first|intro _|apply And.intro)
 ·have h1 : e ≠ 0 := by assumption
  rw [if_pos h1] at hE
  left
  rw [hE]
  exact ⟨h1,rfl⟩
 have h1 : ¬ e ≠ 0 := by assumption
 rw [if_neg h1] at hE
 refine aloop (envOk _) (fun k : Nat => ⟨[(1,.v (ints l)),(2,.v (.eptr [.int .i64 c.words,.int .i64 c.facts,.slice 1 (c.people.map AV.str),.int .i64 c.last,.slice 4 (c.copies.map copyA),.slice 2 (c.rules.map ruleA)])),(9,.v (.int .i64 ((2 * k : Nat) : Int)))],[],[],m⟩)
  (fun k => 2 * k ≤ l.length + 1 ∧ pairsOff (l.drop (2 * k)) = pairsOff l) (fun k => l.length + 1 - 2 * k) 0 (fun _ => rfl) (by simp) (by (simp only [FE,↓FP,seval]); try simp) ?_
 rintro k ⟨hk,hq⟩
 have hidx : (((2 * k : Nat) : Int) + 1).toNat = 2 * k + 1 := by omega
 have hlo : 2 * k + 1 < l.length → -9223372036854775000 ≤ l[2 * k + 1]! ∧ l[2 * k + 1]! ≤ 9223372036854775807 := hlow (by omega) k
 simp(maxSteps:=9^9)only[↓VP,VQ,seval,hidx]
 repeat'(first|intro _|apply And.intro)
 all_goals try first|omega|(simp only[LL];omega)|exact nlC (by decide) _|exact nbC rfl
 ·have hlt : 2 * k + 1 < l.length := by omega
  have ho := offOne_c 0 (l[2 * k + 1]! - 1) l[2 * k]!
  rw [pairsOff_drop hlt] at hq
  (refine adraw (by first | exact envOk _ | exact envCOk _ _ _) mixed [⟨false,false,0⟩,⟨false,false,0⟩,⟨false,false,0⟩,⟨false,false,0⟩,⟨false,false,0⟩,⟨false,false,0⟩,⟨false,false,0⟩,⟨false,false,0⟩,⟨false,false,0⟩,⟨false,false,0⟩,⟨false,false,0⟩,⟨false,false,0⟩] (by kernel_rfl) ?_; show vcOpsD _ _ _ (_ :: _) _ _)
  simp(maxSteps:=9^9)only[↓VP,VQ,seval,hidx]
  repeat'(first|intro _|apply And.intro)
  all_goals try first|omega|(simp only[LL];omega)|exact nlC (by decide) _|exact nbC rfl
  (refine ⟨_,.inl (ho),?_⟩; try simp(maxSteps:=9^9)only[↓VP,VQ,seval])
  repeat'(first|intro _|apply And.intro)
  all_goals try first|omega|(simp only[LL];omega)|exact nlC (by decide) _|exact nbC rfl
  ·have h3 : offP 0 (l[2 * k + 1]! - 1) l[2 * k]! = true := by (first | assumption | (rw [← Bool.not_eq_false]; assumption) | (rw [← Bool.not_eq_true]; assumption) | omega)
   rw [h3,Bool.true_or] at hq
   rw [if_pos hq.symm] at hE
   left
   rw [hE]
   exact ⟨by decide,rfl⟩
  ·have h3 : offP 0 (l[2 * k + 1]! - 1) l[2 * k]! = false := by (first | assumption | (rw [← Bool.not_eq_false]; assumption) | (rw [← Bool.not_eq_true]; assumption) | omega)
   rw [h3,Bool.false_or] at hq
   refine ⟨k + 1,⟨by omega,hq⟩,by dsimp only; omega,?_⟩
   (simp only [FE,↓FP,seval])
   simp
   omega
 ·rw [pairsOff_end (by omega)] at hq
  rw [if_neg (by rw [← hq]; simp)] at hE
  obtain ⟨hv,hl⟩ := hlook (by omega)
  refine ACall.told (hl m) ?_
  rintro r m' ⟨b,hb,rfl,rfl⟩
  simp(maxSteps:=9^9)only[↓VP,VQ,seval]
  right
  exact ⟨hE,hv,b,hb,rfl,rfl⟩
def lostTo (v : VChest) (k : Nat) : List Int := ((List.range k).map fun (i : Nat) => (i : Int) + 1).filter fun n => decide (n ∉ numbersL v)
def lostL (v : VChest) : List Int := lostTo v v.last
def lostR (c : RChest) : List Int × Int := if (checkR c).2.2 ≠ 0 then ([],(checkR c).2.2) else (lostL c.v,0)
theorem lostTo_succ (v : VChest) (k : Nat) : lostTo v (k + 1) = if (k : Int) + 1 ∈ numbersL v then lostTo v k else lostTo v k ++ [(k : Int) + 1] := by
 unfold lostTo
 rw [List.range_succ,List.map_append,List.filter_append]
 by_cases h : (k : Int) + 1 ∈ numbersL v <;> simp [h]
theorem lostTo_length (v : VChest) (k : Nat) : (lostTo v k).length ≤ k := by
 unfold lostTo
 exact Nat.le_trans (List.length_filter_le _ _) (by simp)
theorem rise_lt {v : VChest} (hv : VOk v) {i : Nat} : ∀ {j : Nat},i < j → j < v.copies.length → (v.copies[i]!).number < (v.copies[j]!).number
 | 0,h,_ => by omega
 | j + 1,h,hj => by
  have h1 := hv.rise j hj
  by_cases e : i = j
  ·subst e; exact h1
  ·have := rise_lt hv (i := i) (j := j) (by omega) (by omega)
   omega
theorem mem_numbers {v : VChest} {n : Int} : n ∈ numbersL v ↔ ∃ i,i < v.copies.length ∧ ((v.copies[i]!).number : Int) = n := by
 unfold numbersL
 rw [List.mem_map]
 constructor
 ·rintro ⟨x,hx,rfl⟩
  obtain ⟨i,hi,rfl⟩ := List.mem_iff_getElem.1 hx
  exact ⟨i,hi,by rw [getD_any hi]⟩
 ·rintro ⟨i,hi,h⟩
  exact ⟨v.copies[i],List.getElem_mem hi,by rw [← getD_any hi]; exact h⟩
def cellsC (l : List VCopy) : List AV := (l.map fun x => AV.cells (vcopyA x)).flatten
theorem cellsC_length : ∀ l : List VCopy,(cellsC l).length = 4 * l.length
 | [] => rfl
 | x :: l => by
  have := cellsC_length l
  unfold cellsC at this ⊢
  simp only [List.map_cons,List.flatten_cons,List.length_append,this,List.length_cons]
  simp [vcopyA,AV.cells]; omega
theorem cellsC_drop : ∀ (l : List VCopy) (j : Nat),(cellsC l).drop (j * 4) = cellsC (l.drop j)
 | l,0 => by simp
 | [],j + 1 => by simp [cellsC]
 | x :: l,j + 1 => by
  have := cellsC_drop l j
  rw [List.drop_succ_cons,← this]
  show List.drop ((j + 1) * 4) (AV.cells (vcopyA x) ++ cellsC l) = _
  rw [List.drop_append]
  have h1 : (AV.cells (vcopyA x)).length = 4 := rfl
  rw [List.drop_eq_nil_of_le (by rw [h1]; omega),h1,List.nil_append]
  congr 1; omega
theorem cellsC_head {l : List VCopy} {j : Nat} (h : j < l.length) : ∃ r,(cellsC l).drop (j * 4) = .int .i64 (l[j]!).number :: r := by
 rw [cellsC_drop,List.drop_eq_getElem_cons h,getD_any h]
 exact ⟨_,rfl⟩
theorem cells_over (l : List VCopy) (z : List AV) (hz : z.length = 4) : (List.map AV.cells (List.map vcopyA l)).flatten ++ List.drop (List.map AV.cells (List.map vcopyA l)).flatten.length (List.replicate l.length z).flatten = cellsC l := by
 have e : (List.map AV.cells (List.map vcopyA l)).flatten = cellsC l := by rw [List.map_map]; rfl
 have h1 : (List.replicate l.length z).flatten.length = 4 * l.length := by simp [List.length_flatten,hz]; omega
 rw [e,List.drop_eq_nil_of_le (by rw [h1,cellsC_length]; omega)]
 simp
theorem repl_length (n : Nat) (z : List AV) (hz : z.length = 4) : (List.replicate n z).flatten.length = n * 4 := by simp [List.length_flatten,hz]
theorem lost_c (c : RChest) (hs : namesFit c) : PCall Tryz.prog 41 [chestA c] (.tuple [ints (lostR c).1,.int .i64 (lostR c).2]) := by
 intro m
 refine ACall.forget ?_
 have hE : enterE c [] = (checkR c).2.2 := by
  unfold enterE
  by_cases h : (checkR c).2.2 ≠ 0
  ·rw [if_pos h]
  ·rw [if_neg h]; simp [pairsOff]; omega
 have hR : lostR c = if (checkR c).2.2 ≠ 0 then ([],(checkR c).2.2) else (lostL c.v,0) := rfl
 have hen := enter_c c hs [] (by simp) (by simp) m
 rw [hE] at hen
 generalize hL : lostR c = L at *
 by_cases h0 : (checkR c).2.2 ≠ 0
 ·rw [if_pos h0] at hR
  generalize (checkR c).2.2 = e at *
  simp only [chestA,chestL,strs,ints,List.map_nil] at hen ⊢
  (refine acall_intro (E := env fun _ => .imm) (envOk _) rfl Tryz.func41 rfl Tryz.call41 (by kernel_rfl) (by simp [Tryz.ntmps41]) ?_; simp only [Tryz.f41];  simp(maxSteps:=9^9)only[↓VP,VQ,seval])
  refine ACall.told hen ?_
  rintro r m' (⟨_,rfl,rfl⟩ | ⟨h,_⟩)
  ·simp(maxSteps:=9^9)only[↓VP,VQ,seval,h0]
   rw [hR]
   exact ⟨m',fun _ _ h => h,rfl,rfl⟩
  ·exact absurd h h0
 ·rw [if_neg h0] at hR
  have h0' : (checkR c).2.2 = 0 := by omega
  obtain ⟨e1,hv⟩ := valid_v h0'
  generalize c.v = v at *
  subst e1
  rw [vchestA_raw] at hen ⊢
  rw [h0'] at hen
  simp only [vchestA,vchestL,strs,ints,List.map_nil] at hen ⊢
  have hc6 := hv.c
  have hl30 := hv.l
  (refine acall_intro (E := env fun _ => .imm) (envOk _) rfl Tryz.func41 rfl Tryz.call41 (by kernel_rfl) (by simp [Tryz.ntmps41]) ?_; simp only [Tryz.f41];  simp(maxSteps:=9^9)only[↓VP,VQ,seval])
  refine ACall.told hen ?_
  rintro r m' (⟨h,_⟩ | ⟨_,_,b,hb,rfl,rfl⟩)
  ·exact absurd rfl h
  ·simp(maxSteps:=9^9)only[↓VP,VQ,seval]
   repeat'(first|intro _|apply And.intro)
   all_goals try first|omega|(simp only[LL];omega)|exact nlC (by decide) _|exact nbC rfl
   ·rw [repl_length _ _ rfl]; exact Nat.le_refl _
   refine aloop (envOk _) (fun q : Nat × Nat => ⟨[(2,.v (ints (lostTo v q.1))),(4,.lslice 17 (q.2 * 4) (v.copies.length - q.2) (v.copies.length - q.2)),(23,.v (.int .i64 v.last)),(24,.v (.int .i64 q.1))],[2],[(17,cellsC v.copies)],upd m b (some (.map []))⟩)
    (fun q => q.1 ≤ v.last ∧ q.2 ≤ v.copies.length ∧ ∀ i,i < v.copies.length → ((v.copies[i]!).number ≤ q.1 ↔ i < q.2)) (fun q => v.last - q.1) (0,0) (fun _ => rfl) ?_ ?_ ?_
   ·refine ⟨by simp,by simp,fun i hi => ?_⟩
    obtain ⟨q1,_⟩ := hv.copy _ (List.getElem_mem hi)
    rw [getD_any hi]
    dsimp only
    omega
   ·(simp only [FE,↓FP,seval])
    rw [cells_over v.copies [.int .i64 0,.int .i64 0,.int .i64 0,.int .i64 0] rfl]
    simp [lostTo]
   ·rintro ⟨k,j⟩ ⟨hk,hj,hq⟩
    dsimp only at hk hj hq
    have hlen := lostTo_length v k
    have hcl := cellsC_length v.copies
    by_cases hj2 : j < v.copies.length
    ·obtain ⟨r,hdr⟩ := cellsC_head hj2
     have hnj : k < (v.copies[j]!).number := by
      have := hq j hj2
      omega
     simp(maxSteps:=9^9)only[↓VP,VQ,seval,hdr]
     repeat'(first|intro _|apply And.intro)
     all_goals try first|omega|(simp only[LL];omega)|exact nlC (by decide) _|exact nbC rfl
     ·have h1 : ((v.copies[j]!).number : Int) = (k : Int) + 1 := by assumption
      have hin : (k : Int) + 1 ∈ numbersL v := mem_numbers.2 ⟨j,hj2,h1⟩
      refine ⟨(k + 1,j + 1),⟨by dsimp only; omega,by dsimp only; omega,fun i hi => ?_⟩,by dsimp only; omega,?_⟩
      ·dsimp only
       have := hq i hi
       by_cases e : i = j
       ·subst e; omega
       ·by_cases e2 : i < j
        ·omega
        ·have := rise_lt hv (i := j) (j := i) (by omega) hi
         omega
      ·(simp only [FE,↓FP,seval])
       rw [lostTo_succ,if_pos hin]
       simp
       omega
     ·have h1 : ¬ ((v.copies[j]!).number : Int) = (k : Int) + 1 := by assumption
      have hle : ∀ i,i < v.copies.length → ((v.copies[i]!).number ≤ k + 1 ↔ i < j) := fun i hi => by
       have := hq i hi
       by_cases e : i = j
       ·subst e; omega
       ·by_cases e2 : i < j
        ·omega
        ·have := rise_lt hv (i := j) (j := i) (by omega) hi
         omega
      have hin : ¬ (k : Int) + 1 ∈ numbersL v := by
       intro h
       obtain ⟨i,hi,h⟩ := mem_numbers.1 h
       have h2 := hle i hi
       have h3 := hq i hi
       omega
      refine ⟨(k + 1,j),⟨by dsimp only; omega,by dsimp only; omega,hle⟩,by dsimp only; omega,?_⟩
      (simp only [FE,↓FP,seval])
      rw [lostTo_succ,if_neg hin]
      simp
     ·refine forget_fin hb ?_
      rw [hR,lostL,show v.last = k by omega]
    ·simp(maxSteps:=9^9)only[↓VP,VQ,seval]
     repeat'(first|intro _|apply And.intro)
     all_goals try first|omega|(simp only[LL];omega)|exact nlC (by decide) _|exact nbC rfl
     ·have hin : ¬ (k : Int) + 1 ∈ numbersL v := by
       intro h
       obtain ⟨i,hi,h⟩ := mem_numbers.1 h
       have h3 := hq i hi
       omega
      refine ⟨(k + 1,j),⟨by dsimp only; omega,by dsimp only; omega,fun i hi => ?_⟩,by dsimp only; omega,?_⟩
      ·dsimp only
       have := hq i hi
       omega
      (simp only [FE,↓FP,seval])
      rw [lostTo_succ,if_neg hin]
      simp
     ·refine forget_fin hb ?_
      rw [hR,lostL,show v.last = k by omega]
theorem bitsS_bit : ∀ (l : List Int) (i : Nat),(bitsS l).testBit i = l.any fun x => decide (x.toNat = i)
 | [],i => by simp [bitsS]
 | x :: l,i => by
  rw [bitsS,Nat.testBit_or,bitsS_bit l i,Nat.testBit_two_pow,List.any_cons]
theorem subS_bits (l : List Int) (w : Nat) : subS (bitsS l) w = l.all fun x => w.testBit x.toNat := by
 rw [Bool.eq_iff_iff,subS_iff,List.all_eq_true]
 constructor
 ·intro h x hx
  exact h _ (by rw [bitsS_bit,List.any_eq_true]; exact ⟨x,hx,by simp⟩)
 ·intro h i hi
  rw [bitsS_bit,List.any_eq_true] at hi
  obtain ⟨x,hx,e⟩ := hi
  rw [decide_eq_true_eq] at e
  rw [← e]; exact h x hx
theorem filter_range_le (f : Nat → Bool) (n : Nat) : ∀ m,n ≤ m → (List.range m).filter (fun i => decide (i < n) && f i) = (List.range n).filter f
 | 0,h => by rw [show n = 0 by omega]; rfl
 | m + 1,h => by
  by_cases e : n = m + 1
  ·rw [e]
   refine List.filter_congr fun i hi => ?_
   simp [List.mem_range.1 hi]
  ·rw [List.range_succ,List.filter_append,filter_range_le f n m (by omega)]
   have : ¬ m < n := by omega
   simp [this]
theorem list_setOf (f : Nat → Bool) (n : Nat) (h : n ≤ 62) : listS (setOf f n) = ((List.range n).filter f).map fun (i : Nat) => (i : Int) := by
 unfold listS listTo
 congr 1
 rw [← filter_range_le f n 62 h]
 exact List.filter_congr fun i _ => setOf_bit f i n
theorem foundL_range (v : VChest) (p : Int) (l : List Int) : foundL v p l = ((List.range v.copies.length).filter fun i => (v.copies[i]!).may.testBit p.toNat && wordedB (v.copies[i]!) l).map fun (i : Nat) => (i : Int) := by
 unfold foundL ownL ownTo
 rw [List.filter_map,List.filter_filter]
 congr 1
 refine List.filter_congr fun i _ => ?_
 simp [Bool.and_comm]
theorem viewS_bit (v : VChest) (p i : Nat) (hp : p < v.people.length) : (viewS v p).testBit i = (decide (i < v.copies.length) && (v.copies[i]!).may.testBit p) := by
 unfold viewS; rw [if_pos hp,setOf_bit]
theorem found_find (v : VChest) (hv : VOk v) (p : Nat) (l : List Int) (hp : p < v.people.length) : listS (findS v p (bitsS l)) = foundL v p l := by
 unfold findS
 rw [list_setOf _ _ (by have := hv.c; omega),foundL_range]
 congr 1
 refine List.filter_congr fun i hi => ?_
 rw [viewS_bit v p i hp,subS_bits]
 simp only [List.mem_range] at hi
 simp [hi,wordedB]
def listE (l : List Int) (under : Int) : Int := if l.any (offP 0 (under - 1)) = true then 4 else if risingL under (-1) l = true then 0 else 2
theorem bitsR_snd (l : List Int) (u : Int) : (bitsR l u).2 = listE l u := by
 unfold bitsR listE; split
 ·rfl
 ·split <;> rfl
theorem bitsR_fst (l : List Int) (u : Int) (h : listE l u = 0) : (bitsR l u).1 = bitsS l := by
 unfold listE at h; unfold bitsR
 split at h
 ·cases h
 ·rename_i h1
  split at h
  ·rename_i h2; rw [if_neg h1,if_pos h2]
  ·cases h
theorem askedR_eq (e n below : Int) (l : List Int) (under : Int) : askedR e n below l under = if e ≠ 0 then e else if offP 0 (below - 1) n = true then 4 else listE l under := rfl
theorem listE_zero {l : List Int} {u : Int} (h : listE l u = 0) : (∀ x ∈ l,0 ≤ x ∧ x < u) ∧ risingL u (-1) l = true := by
 unfold listE at h
 split at h
 ·cases h
 ·rename_i h1
  split at h
  ·rename_i h2
   refine ⟨fun x hx => ?_,h2⟩
   have := mt (fun h => List.any_eq_true.2 ⟨x,hx,h⟩) h1
   simp [offP] at this
   omega
  ·cases h
theorem enterE_two (c : RChest) (n b : Int) : enterE c [n,b] = if (checkR c).2.2 ≠ 0 then (checkR c).2.2 else if offP 0 (b - 1) n = true then 4 else 0 := by
 unfold enterE pairsOff pairsOff
 simp
def findR (c : RChest) (p : Int) (l : List Int) : List Int × Int :=
 if askedR (checkR c).2.2 p c.people.length l c.words ≠ 0 then ([],askedR (checkR c).2.2 p c.people.length l c.words) else (foundL c.v p l,0)
theorem find_top (c : RChest) (hs : namesFit c) (p : Int) (l : List Int) (hpl : c.people.length ≤ 9223372036854775807) : PCall Tryz.prog 11 [chestA c,.int .i64 p,ints l] (.tuple [ints (findR c p l).1,.int .i64 (findR c p l).2]) := by
 intro m
 refine ACall.forget ?_
 have hR : findR c p l = if askedR (checkR c).2.2 p c.people.length l c.words ≠ 0 then ([],askedR (checkR c).2.2 p c.people.length l c.words) else (foundL c.v p l,0) := rfl
 have hen := enter_c c hs [p,c.people.length] (by simp) (fun _ j hj => by have q : j = 0 := (by simp at hj; omega); subst q; simp; omega) m
 rw [enterE_two] at hen
 rw [askedR_eq] at hR
 generalize hL : findR c p l = L at *
 by_cases h0 : (if (checkR c).2.2 ≠ 0 then (checkR c).2.2 else if offP 0 ((c.people.length : Int) - 1) p = true then 4 else 0) ≠ 0
 ·have hR' : L = ([],if (checkR c).2.2 ≠ 0 then (checkR c).2.2 else if offP 0 ((c.people.length : Int) - 1) p = true then 4 else 0) := by
   rw [hR]
   by_cases q1 : (checkR c).2.2 ≠ 0
   ·simp only [if_pos q1]
   ·simp only [if_neg q1] at h0 ⊢
    by_cases q2 : offP 0 ((c.people.length : Int) - 1) p = true
    ·simp only [if_pos q2]; rfl
    ·simp only [if_neg q2] at h0; exact absurd rfl h0
  clear hR
  generalize (if (checkR c).2.2 ≠ 0 then (checkR c).2.2 else if offP 0 ((c.people.length : Int) - 1) p = true then 4 else 0) = e at *
  simp only [chestA,chestL,strs,ints,List.map_nil,List.map_cons] at hen ⊢
  (refine acall_intro (E := env fun _ => .imm) (envOk _) rfl Tryz.func11 rfl Tryz.call11 (by kernel_rfl) (by simp [Tryz.ntmps11]) ?_; simp only [Tryz.f11];  simp(maxSteps:=9^9)only[↓VP,VQ,seval])
  repeat'(first|intro _|apply And.intro)
  refine ACall.told hen ?_
  rintro r m' (⟨_,rfl,rfl⟩ | ⟨h,_⟩)
  ·simp(maxSteps:=9^9)only[↓VP,VQ,seval,h0]
   rw [hR']
   exact ⟨m',fun _ _ h => h,rfl,rfl⟩
  ·exact absurd h h0
 ·have h0' : (checkR c).2.2 = 0 := by
   by_cases q1 : (checkR c).2.2 ≠ 0
   ·simp only [if_pos q1] at h0; omega
   ·omega
  have hoff : offP 0 ((c.people.length : Int) - 1) p = false := by
   by_cases q2 : offP 0 ((c.people.length : Int) - 1) p = true
   ·simp [h0',q2] at h0
   ·simpa using q2
  obtain ⟨e1,hv⟩ := valid_v h0'
  simp only [h0',hoff,ne_eq,not_true_eq_false,if_false,Bool.false_eq_true] at hen hR
  clear hs h0 h0' hL
  generalize c.v = v at *
  subst e1
  rw [vchestA_raw] at hen ⊢
  have hoff' : offP 0 ((v.people.length : Int) - 1) p = false := hoff
  rw [offP_false] at hoff'
  have hR' : L = if listE l v.words ≠ 0 then ([],listE l v.words) else (foundL v p l,0) := hR
  have hw5 := hv.w
  have hp3 := hv.p
  have hbits := bits_c l v.words (by omega) (by omega)
  rw [bitsR_snd] at hbits
  have hpn : p = ((p.toNat : Nat) : Int) := by omega
  clear hR hoff hpl
  by_cases h4 : listE l v.words ≠ 0
  ·rw [if_pos h4] at hR'
   generalize (bitsR l v.words).1 = w at *
   generalize listE l v.words = e at *
   simp only [vchestA,vchestL,strs,ints,List.map_nil,List.map_cons,VChest.raw] at hen hbits ⊢
   (refine acall_intro (E := env fun _ => .imm) (envOk _) rfl Tryz.func11 rfl Tryz.call11 (by kernel_rfl) (by simp [Tryz.ntmps11]) ?_; simp only [Tryz.f11];  simp(maxSteps:=9^9)only[↓VP,VQ,seval])
   repeat'(first|intro _|apply And.intro)
   refine ACall.told hen ?_
   rintro r m' (⟨h,_⟩ | ⟨_,_,b,hb,rfl,rfl⟩)
   ·exact h.elim
   ·simp(maxSteps:=9^9)only[↓VP,VQ,seval]
    (refine ACall.pure (hbits) ?_; try simp(maxSteps:=9^9)only[↓VP,VQ,seval])
    simp(maxSteps:=9^9)only[↓VP,VQ,seval,h4]
    refine forget_fin hb ?_
    rw [hR']; rfl
  ·rw [if_neg h4] at hR'
   have h4' : listE l v.words = 0 := by omega
   rw [bitsR_fst l _ h4',h4'] at hbits
   obtain ⟨r1,r2⟩ := listE_zero h4'
   have hbl : bitsS l < 2 ^ 60 := (bitsS_lt (b := 60) fun x hx => by have := r1 x hx; omega).resolve_right (by simp)
   have hff := found_find v hv p.toNat l (by omega)
   rw [← hpn] at hff
   have hfl : findS v p.toNat (bitsS l) < 2 ^ 62 := Nat.lt_of_lt_of_le (setOf_lt _ _) (Nat.pow_le_pow_right (by decide) (by have := hv.c; omega))
   have hlist := list_c (findS v p.toNat (bitsS l)) hfl
   rw [hff] at hlist
   simp only [vchestA,vchestL,strs,ints,List.map_nil,List.map_cons,VChest.raw] at hen hbits hlist ⊢
   (refine acall_intro (E := env fun _ => .imm) (envOk _) rfl Tryz.func11 rfl Tryz.call11 (by kernel_rfl) (by simp [Tryz.ntmps11]) ?_; simp only [Tryz.f11];  simp(maxSteps:=9^9)only[↓VP,VQ,seval])
   repeat'(first|intro _|apply And.intro)
   refine ACall.told hen ?_
   rintro r m' (⟨h,_⟩ | ⟨_,_,b,hb,rfl,rfl⟩)
   ·exact h.elim
   ·have hfind := find_c v b p.toNat (bitsS l) hv (by omega) hbl
    rw [← hpn] at hfind
    simp(maxSteps:=9^9)only[↓VP,VQ,seval]
    (refine ACall.pure (hbits) ?_; try simp(maxSteps:=9^9)only[↓VP,VQ,seval])
    (refine ACall.pure (hfind) ?_; try simp(maxSteps:=9^9)only[↓VP,VQ,seval])
    (refine ACall.pure (hlist) ?_; try simp(maxSteps:=9^9)only[↓VP,VQ,seval])
    refine forget_fin hb ?_
    rw [hR']
end Go.Proofs.YtdmejgfcaacdoaaGreat.Abs
