/- Lemmas for the statements of this seat (W38): they hold without conditions beyond those that each one states. -/
import Derived.Test.YtdmejgfcaacdoaaGreatW37
import Derived.Test.YtdmejgfcaacdoaaGreatW32
import Derived.Test.YtdmejgfcaacdoaaGreatW29
import Derived.Test.YtdmejgfcaacdoaaGreatW30
import Derived.Test.YtdmejgfcaacdoaaGreatW28
import Derived.Test.YtdmejgfcaacdoaaGreatW22
import Derived.Test.YtdmejgfcaacdoaaGreatW21
import Derived.Test.YtdmejgfcaacdoaaGreatW23
/- The statement TopFormed: the walk. -/
namespace Go.Proofs.YtdmejgfcaacdoaaGreat.Abs
set_option linter.unusedSimpArgs false
set_option maxHeartbeats 4000000
set_option maxRecDepth 100000
open Go Go.RowKit Go.Proofs
def aAll : ByteArray := ⟨#[97,108,108]⟩
def copiesW (words : List ByteArray) (own : List (List ByteArray)) : List AV := (List.range own.length).map fun i => vcopyA (copyW words own i)
def cellsW (words : List ByteArray) (own : List (List ByteArray)) : List AV := [.int .i64 (max 1 (words.length : Int)),.int .i64 1,.slice 1 [.str aAll],.int .i64 6,.slice 4 (copiesW words own),.slice 2 []]
theorem cellsW_v (words : List ByteArray) (own : List (List ByteArray)) : chestA (chestV words own).raw = .agg (cellsW words own) := by
 rw [vchestA_raw,vchestA,vchestL]
 have e1 : ((chestV words own).copies.map vcopyA) = copiesW words own := by
  simp only [chestV,copiesW,List.map_map]; rfl
 have e2 : (((chestV words own).words : Nat) : Int) = max 1 (words.length : Int) := by
  simp only [chestV]; omega
 rw [e1,e2]; rfl
theorem copies_snoc (words : List ByteArray) (own : List (List ByteArray)) (l : List ByteArray) : copiesW words (own ++ [l]) = copiesW words own ++ [.agg [.int .i64 ((own.length : Int) + 1),.int .i64 (bitsW words l),.int .i64 0,.int .i64 1]] := by
 unfold copiesW
 rw [List.length_append,List.length_singleton,List.range_succ,List.map_append,List.map_singleton]
 congr 1
 ·refine List.map_congr_left fun i hi => ?_
  rw [List.mem_range] at hi
  unfold copyW
  rw [getElem!_pos (own ++ [l]) i (by simp; omega),List.getElem_append_left hi,getElem!_pos own i hi]
 ·unfold vcopyA copyW
  rw [getElem!_pos (own ++ [l]) own.length (by simp),List.getElem_append_right (Nat.le_refl _)]
  simp
theorem copies_len (words : List ByteArray) (own : List (List ByteArray)) : (copiesW words own).length = own.length := by simp [copiesW]
theorem bits_step (f : Nat → Bool) (k : Nat) : ((setOf f (k + 1) : Nat) : Int) = if f k = true then (setOf f k : Int) + ((2 ^ k : Nat) : Int) else (setOf f k : Int) := by
 have h := setOf_lt f k
 show (((if f k = true then setOf f k ||| 2 ^ k else setOf f k : Nat)) : Int) = _
 split
 ·have := Nat.two_pow_add_eq_or_of_lt h 1
  rw [Nat.mul_one] at this
  rw [Nat.or_comm,← this]; omega
 ·rfl
theorem namesFit_W (words : List ByteArray) (own : List (List ByteArray)) : namesFit (chestV words own).raw := by
 intro s hs
 simp only [VChest.raw,chestV,List.mem_singleton] at hs
 subst hs; decide
theorem ask_all : ∀ n,n ≤ 5 → listE (upToL n) (max 1 n : Nat) = 0
 | 0,_ => by decide
 | 1,_ => by decide
 | 2,_ => by decide
 | 3,_ => by decide
 | 4,_ => by decide
 | 5,_ => by decide
 | n + 6,h => absurd h (by omega)
theorem findW_c (words : List ByteArray) (own : List (List ByteArray)) (hw : words.length ≤ 5) (ho : own.length ≤ 6) :
  PCall Tryz.prog 11 [.agg (cellsW words own),.int .i64 0,ints (upToL words.length)] (.tuple [ints (foundL (chestV words own) 0 (upToL words.length)),.int .i64 0]) := by
 have h := find_top (chestV words own).raw (namesFit_W words own) 0 (upToL words.length) (by simp [VChest.raw,chestV])
 have e := find_v (chestV_ok (own := own) hw ho) (p := 0) (by simp [chestV]) (l := upToL words.length) (ask_all _ hw)
 rw [show ((0 : Nat) : Int) = 0 from rfl] at e
 rw [e,cellsW_v] at h
 exact h
theorem keyW_c (words : List ByteArray) (own : List (List ByteArray)) (hw : words.length ≤ 5) (ho : own.length ≤ 6) (n : Int) :
  PCall Tryz.prog 15 [.agg (cellsW words own),.int .i64 0,.int .i64 n] (.tuple [ints (keyL (chestV words own) 0 n).1,.int .i64 (keyL (chestV words own) 0 n).2]) := by
 have h := key_top (chestV words own).raw (namesFit_W words own) 0 n (by simp [VChest.raw,chestV])
 have e : keyR (chestV words own).raw 0 n = keyL (chestV words own) 0 n := by
  unfold keyR
  have : enterE (chestV words own).raw [0,(chestV words own).raw.people.length] = 0 := by
   rw [enterE_two,check_ok (chestV_ok hw ho),if_neg (by decide),if_neg]
   simp [VChest.raw,chestV,offP]
  rw [if_neg (by rw [this]; decide),raw_v]; rfl
 rw [e,cellsW_v] at h
 exact h
structure OwnJ (own : List (List ByteArray)) : Prop where
 l : own.length ≤ 6
 ok : ∀ x ∈ own,letE x = 0 ∧ sizesFit x
theorem topFormed_c (s : RShelf) (hs : shelfFit s) (w : Nat) (hw : w < 256) (L : List (List ByteArray)) (hL : rowsFit L) (m : Mem) :
  ACall Tryz.prog 3 [shelfA s,.int .u8 w,rowsW L] m fun r _ => r = .bool true := by
 have c1 := refcheck2_c s hs
 have w4 := letawake_c
 have w9 := awake_c
 have hof := fun l hl => letof_c s hs l hl
 have hmd := fun n l hl => mend_c s hs n l hl
 have hformed := fun (hc : (checkS s).2.2 = 0) n hn l hl => of_formed (s := s) hc (n := n) hn (l := l) hl
 have hmended := fun (hc : (checkS s).2.2 = 0) n hn l hl => mend_formed (s := s) hc (n := n) hn (l := l) hl
 have hgv := fun n : Nat => topgiven_c (s.forms[n]!)
 have hgl := fun n : Nat => givenOf_len (s.forms[n]!).parts
 obtain ⟨E,hE⟩ : ∃ E,E = checkS s := ⟨_,rfl⟩
 rw [← hE] at c1 hformed hmended
 simp only [shelfA,shelfL,rowsW,strs,formA] at c1 hof hmd hgv ⊢
 by_cases h0 : E.2.2 = 0
 rotate_left
 ·have x0 : (E.2.2 = 0) = False := eq_false h0
  (refine acall_intro (E := envC (modeAt [12,18] []) false []) (envCOk _ _ _) rfl Tryz.func3 rfl Tryz.call3 (by kernel_rfl) (by simp [Tryz.ntmps3]) ?_; simp only [Tryz.f3];  simp(maxSteps:=9^9)only[↓VX,VQ,seval,ixForm])
  refine ACall.pure c1 ?_
  simp(maxSteps:=9^9)only[↓VX,VQ,seval,x0]
  ((refine ACall.pure (w4) ?_; try simp(maxSteps:=9^9)only[↓VX,VQ,seval]); try simp(maxSteps:=9^9)only[↓VX,VQ,seval,GL])
  ((refine ACall.pure (w9) ?_; try simp(maxSteps:=9^9)only[↓VX,VQ,seval]); try simp(maxSteps:=9^9)only[↓VX,VQ,seval,GL])
 have x0 : (E.2.2 = 0) = True := eq_true h0
 by_cases h1 : s.forms.length = 0
 ·have x1 : ((s.forms.length : Int) = 0) = True := eq_true (by omega)
  (refine acall_intro (E := envC (modeAt [12,18] []) false []) (envCOk _ _ _) rfl Tryz.func3 rfl Tryz.call3 (by kernel_rfl) (by simp [Tryz.ntmps3]) ?_; simp only [Tryz.f3];  simp(maxSteps:=9^9)only[↓VX,VQ,seval,ixForm])
  refine ACall.pure c1 ?_
  simp(maxSteps:=9^9)only[↓VX,VQ,seval,x0,x1]
  repeat'(first|intro _|apply And.intro)
  all_goals try first|omega|(simp only[LL];omega)|exact nlC (by decide) _|exact nbC rfl
  ((refine ACall.pure (w4) ?_; try simp(maxSteps:=9^9)only[↓VX,VQ,seval]); try simp(maxSteps:=9^9)only[↓VX,VQ,seval,GL])
  ((refine ACall.pure (w9) ?_; try simp(maxSteps:=9^9)only[↓VX,VQ,seval]); try simp(maxSteps:=9^9)only[↓VX,VQ,seval,GL])
 have x1 : ((s.forms.length : Int) = 0) = False := eq_false (by omega)
 have hmod : ((w : Int) % (s.forms.length : Int)) = ((w % s.forms.length : Nat) : Int) := rfl
 have hn : w % s.forms.length < s.forms.length := Nat.mod_lt _ (by omega)
 have hof2 := hformed h0 _ hn
 have hmd2 := hmended h0 _ hn
 have hgv := hgv (w % s.forms.length)
 have hgl := hgl (w % s.forms.length)
 have hmd := hmd ((w % s.forms.length : Nat) : Int)
 (refine acall_intro (E := envC (modeAt [12,18] []) false []) (envCOk _ _ _) rfl Tryz.func3 rfl Tryz.call3 (by kernel_rfl) (by simp [Tryz.ntmps3]) ?_; simp only [Tryz.f3];  simp(maxSteps:=9^9)only[↓VX,VQ,seval,ixForm])
 refine ACall.pure c1 ?_
 simp(maxSteps:=9^9)only[↓VX,VQ,seval,x0,x1]
 repeat'(first|intro _|apply And.intro)
 all_goals try first|omega|(simp only[LL];omega)|exact nlC (by decide) _|exact nbC rfl
 simp(maxSteps:=9^9)only[↓VX,VQ,seval,hmod,↓ixForm,Int.toNat_natCast]
 generalize givenOf (s.forms[w % s.forms.length]!).parts = words at *
 generalize w % s.forms.length = n at *
 repeat'(first|intro _|apply And.intro)
 all_goals try first|omega|(simp only[LL];omega)|exact nlC (by decide) _|exact nbC rfl
 refine ACall.pure hgv ?_
 simp(maxSteps:=9^9)only[↓VX,VQ,seval]
 repeat'(first|intro _|apply And.intro)
 all_goals try first|omega|(simp only[LL];omega)|exact nlC (by decide) _|exact nbC rfl
 ·rfl
 ·rfl
 clear hgv
 refine aloop (envCOk _ _ _) (fun q : Nat × List (List ByteArray) => ⟨[(2,.v (.slice 1 (L.map strs))),(3,.v (.eptr [.int .i64 s.width,.slice 2 (s.forms.map formA)])),(10,.v (.int .i64 n)),(11,.v (.slice 1 (words.map AV.str))),(12,.loc 12 0),(13,.v (.slice 1 (q.2.map strs))),(14,.v (.int .i64 q.1))],[],[(12,cellsW words q.2)],m⟩)
  (fun q => q.1 ≤ L.length ∧ OwnJ q.2) (fun q => L.length - q.1) (0,[]) (fun _ => rfl) ⟨Nat.zero_le _,⟨by simp,by simp⟩⟩ ?_ ?_
 ·(simp only [FE,↓FP,seval])
  exact ⟨⟨rfl,by rw [hmod],rfl⟩,rfl⟩
 rintro ⟨i,own⟩ ⟨hi,hJ⟩
 dsimp only at hi hJ
 have ho6 := hJ.l
 have hcl := copies_len words own
 by_cases hc : i < L.length ∧ own.length < 6
 ·obtain ⟨hil,hol⟩ := hc
  have y1 : ((i : Int) < (L.length : Int)) = True := eq_true (by omega)
  have y2 : ((own.length : Int) < 6) = True := eq_true (by omega)
  have hLi : sizesFit L[i]! := hL _ (by rw [getD_any hil]; exact List.getElem_mem hil)
  have hle := refLetter_c L[i]! hLi
  have hwh := fun w => where_c L[i]! w
  simp only [strs] at hle hwh
  by_cases hl0 : letE L[i]! = 0
  ·have y3 : (letE L[i]! = 0) = True := eq_true hl0
   simp(maxSteps:=9^9)only[↓VX,VQ,seval,y1,y2,↓ixRowsW,strs]
   repeat'(first|intro _|apply And.intro)
   all_goals try first|omega|(simp only[LL];omega)|exact nlC (by decide) _|exact nbC rfl
   refine ACall.pure hle ?_
   simp(maxSteps:=9^9)only[↓VX,VQ,seval,y3]
   refine aloop (envCOk _ _ _) (fun k : Nat => ⟨[(2,.v (.slice 1 (L.map strs))),(3,.v (.eptr [.int .i64 s.width,.slice 2 (s.forms.map formA)])),(10,.v (.int .i64 n)),(11,.v (.slice 1 (words.map AV.str))),(12,.loc 12 0),(13,.v (.slice 1 (own.map strs))),(14,.v (.int .i64 i)),
     (15,.v (.int .i64 (setOf (fun k => hasW L[i]! words[k]!) k : Nat))),(16,.v (.int .i64 (2 ^ k : Nat))),(17,.v (.int .i64 k))],[],[(12,cellsW words own)],m⟩)
    (fun k => k ≤ words.length) (fun k => words.length - k) 0 (fun _ => rfl) (Nat.zero_le _) (by (simp only [FE,↓FP,seval]); try simp [setOf]) ?_
   rintro k hk
   by_cases hkl : k < words.length
   ·have z1 : ((k : Int) < (words.length : Int)) = True := eq_true (by omega)
    have hb := bits_step (fun k => hasW L[i]! words[k]!) k
    have hb2 := setOf_lt (fun k => hasW L[i]! words[k]!) k
    have hb3 : 2 ^ k ≤ 2 ^ 5 := Nat.pow_le_pow_right (by decide) (by omega)
    have hb4 : ((2 ^ (k + 1) : Nat) : Int) = 2 * ((2 ^ k : Nat) : Int) := by rw [Nat.pow_succ]; omega
    have hwk := hwh words[k]!
    have hix := idxL_lt (fun x => decide (x = words[k]!)) L[i]!
    have hhe : hasW L[i]! words[k]! = L[i]!.any (fun x => decide (x = words[k]!)) := rfl
    rw [← hhe] at hix
    generalize idxL (fun x => decide (x = words[k]!)) L[i]! = I at *
    obtain ⟨bw,hbw⟩ : ∃ b,b = hasW L[i]! words[k]! := ⟨_,rfl⟩
    rw [← hbw] at hix hb
    generalize setOf (fun k => hasW L[i]! words[k]!) k = B0 at *
    generalize 2 ^ k = U0 at *
    have hU : U0 ≤ 32 := hb3
    cases bw
    ·have i1 : (0 ≤ I) = False := eq_false (by have q : I < 0 := (by simpa using hix); omega)
     rw [if_neg (by decide)] at hb
     simp(maxSteps:=9^9)only[↓VX,VQ,seval,z1]
     repeat'(first|intro _|apply And.intro)
     all_goals try first|omega|(simp only[LL];omega)|exact nlC (by decide) _|exact nbC rfl
     (refine adraw (by first | exact envOk _ | exact envCOk _ _ _) mixed [⟨false,false,0⟩,⟨false,false,0⟩,⟨false,false,0⟩,⟨false,false,0⟩,⟨false,false,0⟩,⟨false,false,0⟩,⟨false,false,0⟩,⟨false,false,0⟩,⟨false,false,0⟩,⟨false,false,0⟩] (by kernel_rfl) ?_; show vcOpsD _ _ _ (_ :: _) _ _)
     simp(maxSteps:=9^9)only[↓VX,VQ,seval,↓ixRowsW,strs]
     repeat'(first|intro _|apply And.intro)
     all_goals try first|omega|(simp only[LL];omega)|exact nlC (by decide) _|exact nbC rfl
     (refine ⟨_,.inl (hwk),?_⟩; try simp(maxSteps:=9^9)only[↓VX,VQ,seval])
     simp(maxSteps:=9^9)only[↓VX,VQ,seval,i1]
     repeat'(first|intro _|apply And.intro)
     all_goals try first|omega|(simp only[LL];omega)|exact nlC (by decide) _|exact nbC rfl
     refine ⟨k + 1,by omega,by dsimp only; omega,?_⟩
     (simp only [FE,↓FP,seval])
     rw [hb,hb4]
     try simp
    ·have i1 : (0 ≤ I) = True := eq_true (by have q : ¬ I < 0 := (by simpa using hix); omega)
     rw [if_pos rfl] at hb
     simp(maxSteps:=9^9)only[↓VX,VQ,seval,z1]
     repeat'(first|intro _|apply And.intro)
     all_goals try first|omega|(simp only[LL];omega)|exact nlC (by decide) _|exact nbC rfl
     (refine adraw (by first | exact envOk _ | exact envCOk _ _ _) mixed [⟨false,false,0⟩,⟨false,false,0⟩,⟨false,false,0⟩,⟨false,false,0⟩,⟨false,false,0⟩,⟨false,false,0⟩,⟨false,false,0⟩,⟨false,false,0⟩,⟨false,false,0⟩,⟨false,false,0⟩] (by kernel_rfl) ?_; show vcOpsD _ _ _ (_ :: _) _ _)
     simp(maxSteps:=9^9)only[↓VX,VQ,seval,↓ixRowsW,strs]
     repeat'(first|intro _|apply And.intro)
     all_goals try first|omega|(simp only[LL];omega)|exact nlC (by decide) _|exact nbC rfl
     (refine ⟨_,.inl (hwk),?_⟩; try simp(maxSteps:=9^9)only[↓VX,VQ,seval])
     simp(maxSteps:=9^9)only[↓VX,VQ,seval,i1]
     repeat'(first|intro _|apply And.intro)
     all_goals try first|omega|(simp only[LL];omega)|exact nlC (by decide) _|exact nbC rfl
     refine ⟨k + 1,by omega,by dsimp only; omega,?_⟩
     (simp only [FE,↓FP,seval])
     rw [hb,hb4]
     try simp
   ·have z1 : ((k : Int) < (words.length : Int)) = False := eq_false (by omega)
    obtain rfl : k = words.length := by omega
    have hcs := copies_snoc words own L[i]!
    have hbe : setOf (fun k => hasW L[i]! words[k]!) words.length = bitsW words L[i]! := rfl
    rw [hbe]
    generalize bitsW words L[i]! = B at *
    simp(maxSteps:=9^9)only[↓VX,VQ,seval,z1]
    repeat'(first|intro _|apply And.intro)
    all_goals try first|omega|(simp only[LL];omega)|exact nlC (by decide) _|exact nbC rfl
    (refine adraw (by first | exact envOk _ | exact envCOk _ _ _) mixed [⟨false,false,0⟩,⟨false,false,0⟩,⟨false,true,0⟩,⟨false,false,0⟩,⟨false,false,0⟩,⟨false,false,0⟩,⟨false,false,0⟩,⟨false,false,0⟩,⟨false,true,0⟩,⟨false,true,0⟩] (by kernel_rfl) ?_; show vcOpsD _ _ _ (_ :: _) _ _)
    simp(maxSteps:=9^9)only[↓VX,VQ,seval,↓ixRowsW,strs]
    repeat'(first|intro _|apply And.intro)
    all_goals try first|omega|(simp only[LL];omega)|exact nlC (by decide) _|exact nbC rfl
    all_goals try (rename_i hz; exact absurd hz (by decide))
    ·rfl
    refine ⟨(i + 1,own ++ [L[i]!]),⟨by dsimp only; omega,⟨by rw [List.length_append,List.length_singleton]; omega,fun x hx => ?_⟩⟩,by dsimp only; omega,?_⟩
    ·rcases List.mem_append.1 hx with h | h
     ·exact hJ.ok x h
     ·rw [List.mem_singleton] at h; subst h; exact ⟨hl0,hLi⟩
    ·(simp only [FE,↓FP,seval])
     refine ⟨⟨by rw [List.map_append]; rfl,by rfl⟩,?_⟩
     rw [show cellsW words (own ++ [L[i]!]) = [.int .i64 (max 1 (words.length : Int)),.int .i64 1,.slice 1 [.str aAll],.int .i64 6,.slice 4 (copiesW words (own ++ [L[i]!])),.slice 2 []] from rfl,hcs]
     have hle2 : (((own.map strs ++ [AV.slice 1 (L[i]!.map AV.str)]).length : Nat) : Int) = (own.length : Int) + 1 := by simp
     rw [hle2]
     rfl
  ·have y3 : (letE L[i]! = 0) = False := eq_false hl0
   simp(maxSteps:=9^9)only[↓VX,VQ,seval,y1,y2,↓ixRowsW,strs]
   repeat'(first|intro _|apply And.intro)
   all_goals try first|omega|(simp only[LL];omega)|exact nlC (by decide) _|exact nbC rfl
   refine ACall.pure hle ?_
   simp(maxSteps:=9^9)only[↓VX,VQ,seval,y3]
   repeat'(first|intro _|apply And.intro)
   all_goals try first|omega|(simp only[LL];omega)|exact nlC (by decide) _|exact nbC rfl
   refine ⟨(i + 1,own),⟨by dsimp only; omega,hJ⟩,by dsimp only; omega,?_⟩
   (simp only [FE,↓FP,seval])
   try simp
 ·have y1 : (i : Int) < (L.length : Int) → ((own.length : Int) < 6) = False := fun h => eq_false (by omega)
  have hgv := findW_c words own hgl ho6
  have hff := fun (k : Nat) => @found_formed words own k
  have hkey := fun n => keyW_c words own hgl ho6 n
  have hkf := fun (k : Nat) (hk : k < own.length) => key_formed (words := words) (own := own) hgl ho6 hk
  simp only [ints] at hgv hkey
  generalize foundL (chestV words own) 0 (upToL words.length) = F at *
  by_cases y0 : (i : Int) < (L.length : Int)
  case' pos =>
   have y2 : ((i : Int) < (L.length : Int)) = True := eq_true y0
   have y3 := y1 y0
   clear y1
   simp(maxSteps:=9^9)only[↓VX,VQ,seval,y2,y3]
   repeat'(first|intro _|apply And.intro)
   all_goals try first|omega|(simp only[LL];omega)|exact nlC (by decide) _|exact nbC rfl
  case' neg =>
   have y2 : ((i : Int) < (L.length : Int)) = False := eq_false y0
   clear y1
   simp(maxSteps:=9^9)only[↓VX,VQ,seval,y2]
   repeat'(first|intro _|apply And.intro)
   all_goals try first|omega|(simp only[LL];omega)|exact nlC (by decide) _|exact nbC rfl
  all_goals
   refine aloop (envCOk _ _ _) (fun k : Nat => ⟨[(3,.v (.eptr [.int .i64 s.width,.slice 2 (s.forms.map formA)])),(10,.v (.int .i64 n)),(11,.v (.slice 1 (words.map AV.str))),(12,.loc 12 0),(13,.v (.slice 1 (own.map strs))),(18,.v (.slice 1 ((upToL k).map (AV.int .i64)))),(19,.v (.int .i64 k))],[18],[(12,cellsW words own)],m⟩)
    (fun k => k ≤ words.length) (fun k => words.length - k) 0 (fun _ => rfl) (Nat.zero_le _) (by (simp only [FE,↓FP,seval]); try simp [upToL]) ?_
   rintro k hk
   by_cases hkl : k < words.length
   ·have z1 : ((k : Int) < (words.length : Int)) = True := eq_true (by omega)
    have hul : (upToL k).length = k := by simp [upToL]
    simp(maxSteps:=9^9)only[↓VX,VQ,seval,z1]
    repeat'(first|intro _|apply And.intro)
    all_goals try first|omega|(simp only[LL];omega)|exact nlC (by decide) _|exact nbC rfl
    refine ⟨k + 1,by omega,by dsimp only; omega,?_⟩
    (simp only [FE,↓FP,seval])
    rw [upToL_succ]
    try simp
   have z1 : ((k : Int) < (words.length : Int)) = False := eq_false (by omega)
   obtain rfl : k = words.length := by omega
   simp(maxSteps:=9^9)only[↓VX,VQ,seval,z1]
   repeat'(first|intro _|apply And.intro)
   all_goals try first|omega|(simp only[LL];omega)|exact nlC (by decide) _|exact nbC rfl
   simp only [cellsW] at hgv hkey
   refine ACall.pure hgv ?_
   simp(maxSteps:=9^9)only[↓VX,VQ,seval]
   repeat'(first|intro _|apply And.intro)
   all_goals try first|omega|(simp only[LL];omega)|exact nlC (by decide) _|exact nbC rfl
   refine aloop (envCOk _ _ _) (fun k : Nat => ⟨[(3,.v (.eptr [.int .i64 s.width,.slice 2 (s.forms.map formA)])),(10,.v (.int .i64 n)),(12,.loc 12 0),(13,.v (.slice 1 (own.map strs))),(20,.v (.slice 1 (F.map (AV.int .i64)))),(22,.v (.int .i64 k))],[],[(12,cellsW words own)],m⟩)
    (fun k => k ≤ own.length) (fun k => own.length - k) 0 (fun _ => rfl) (Nat.zero_le _) (by (simp only [FE,↓FP,seval]); try simp [cellsW]) ?_
   rintro k hk
   by_cases hkl : k < own.length
   rotate_left
   ·have z1 : ((k : Int) < (own.length : Int)) = False := eq_false (by omega)
    simp(maxSteps:=9^9)only[↓VX,VQ,seval,z1]
    repeat'(first|intro _|apply And.intro)
    all_goals try first|omega|(simp only[LL];omega)|exact nlC (by decide) _|exact nbC rfl
    ((refine ACall.pure (w4) ?_; try simp(maxSteps:=9^9)only[↓VX,VQ,seval]); try simp(maxSteps:=9^9)only[↓VX,VQ,seval,GL])
    ((refine ACall.pure (w9) ?_; try simp(maxSteps:=9^9)only[↓VX,VQ,seval]); try simp(maxSteps:=9^9)only[↓VX,VQ,seval,GL])
   have z1 : ((k : Int) < (own.length : Int)) = True := eq_true (by omega)
   have hx := hJ.ok own[k]! (by rw [getD_any hkl]; exact List.getElem_mem hkl)
   have o1 := hof own[k]! hx.2
   obtain ⟨g1,g2⟩ := hof2 _ hx.1
   have m1 := hmd _ hx.2
   obtain ⟨g3,g4⟩ := hmd2 _ hx.1
   rw [g1] at o1
   rw [g3] at m1
   have hff := hff k
   have hkey := hkey ((k : Int) + 1)
   have hkf := hkf k hkl
   generalize (ofR s own[k]!).1 = OF at *
   generalize (mendR s (n : Int) own[k]!).1 = MN at *
   generalize keyL (chestV words own) 0 ((k : Int) + 1) = KY at *
   have hasO := has_c OF n
   have hasF := has_c F k
   obtain ⟨a,ha⟩ : ∃ a,a = decide ((n : Int) ∈ OF) := ⟨_,rfl⟩
   obtain ⟨b,hb⟩ : ∃ b,b = decide ((k : Int) ∈ F) := ⟨_,rfl⟩
   rw [← ha] at hasO
   rw [← hb] at hasF
   have hab : a = true → b = true := fun h => by
    rw [h] at ha
    rw [hb]
    exact decide_eq_true (hff.2 ⟨hkl,g2 (of_decide_eq_true ha.symm)⟩)
   have hmb : MN = 0 → b = true := fun h => by
    rw [hb]
    exact decide_eq_true (hff.2 ⟨hkl,g4 h⟩)
   simp only [ints] at hasO hasF o1
   simp(maxSteps:=9^9)only[↓VX,VQ,seval,z1]
   repeat'(first|intro _|apply And.intro)
   all_goals try first|omega|(simp only[LL];omega)|exact nlC (by decide) _|exact nbC rfl
   (refine adraw (by first | exact envOk _ | exact envCOk _ _ _) mixed [⟨false,false,0⟩,⟨false,false,0⟩,⟨false,false,0⟩,⟨false,false,0⟩,⟨false,false,0⟩,⟨false,false,0⟩,⟨false,false,0⟩,⟨false,false,0⟩,⟨false,false,0⟩,⟨false,false,0⟩,⟨false,false,0⟩] (by kernel_rfl) ?_; show vcOpsD _ _ _ (_ :: _) _ _)
   simp(maxSteps:=9^9)only[↓VX,VQ,seval,↓ixRowsW,strs]
   repeat'(first|intro _|apply And.intro)
   all_goals try first|omega|(simp only[LL];omega)|exact nlC (by decide) _|exact nbC rfl
   (refine ⟨_,.inl (o1),?_⟩; try simp(maxSteps:=9^9)only[↓VX,VQ,seval])
   (refine adraw (by first | exact envOk _ | exact envCOk _ _ _) mixed [⟨false,false,0⟩,⟨false,false,0⟩,⟨false,false,0⟩,⟨false,false,0⟩,⟨false,false,0⟩,⟨false,false,0⟩,⟨false,false,0⟩,⟨false,false,0⟩,⟨false,false,0⟩,⟨false,false,0⟩,⟨false,false,0⟩,⟨false,false,0⟩] (by kernel_rfl) ?_; show vcOpsD _ _ _ (_ :: _) _ _)
   simp(maxSteps:=9^9)only[↓VX,VQ,seval,↓ixRowsW,strs]
   repeat'(first|intro _|apply And.intro)
   all_goals try first|omega|(simp only[LL];omega)|exact nlC (by decide) _|exact nbC rfl
   (refine ⟨_,.inl (m1),?_⟩; try simp(maxSteps:=9^9)only[↓VX,VQ,seval])
   have k1 : (KY.2 = 9) ∨ (KY.2 = 0 ∧ ∀ j,j < own.length → own[j]! = own[k]! → j = k) := hkf
   clear hkf
   have hEnd : b = true ∨ (a = false ∧ b = false ∧ (MN = 0) = False) := by
    cases b
    ·right
     refine ⟨by cases a; rfl; exact absurd (hab rfl) (by decide),rfl,eq_false fun h => absurd (hmb h) (by decide)⟩
    ·exact .inl rfl
   have hfew := fun (j : Nat) (hj : j < own.length) => fewest_c own[k]! own[j]! hx.2 (hJ.ok own[j]! (by rw [getD_any hj]; exact List.getElem_mem hj)).2
   have hfw2 := fun (j : Nat) (hj : j < own.length) => fewest_formed hx.1 (hJ.ok own[j]! (by rw [getD_any hj]; exact List.getElem_mem hj)).1
   have hBk : k + 1 ≤ own.length := hkl
   simp only [strs,marksA] at hfew
   rcases hEnd with rfl | ⟨rfl,rfl,hm0⟩
   case' inl =>
    cases a
    case' false =>
     refine ACall.pure hasO ?_
     simp(maxSteps:=9^9)only[↓VX,VQ,seval]
     refine ACall.pure hasF ?_
     simp(maxSteps:=9^9)only[↓VX,VQ,seval]
    case' true =>
     refine ACall.pure hasO ?_
     simp(maxSteps:=9^9)only[↓VX,VQ,seval]
     refine ACall.pure hasF ?_
     simp(maxSteps:=9^9)only[↓VX,VQ,seval]
     refine ACall.pure hasF ?_
     simp(maxSteps:=9^9)only[↓VX,VQ,seval]
   case' inr =>
    refine ACall.pure hasO ?_
    simp(maxSteps:=9^9)only[↓VX,VQ,seval]
    refine ACall.pure hasF ?_
    simp(maxSteps:=9^9)only[↓VX,VQ,seval,hm0]
   all_goals
    refine ⟨Nat.le_refl 6,⟨by omega,by omega⟩,?_⟩
    refine ACall.pure hkey ?_
    rcases k1 with k9 | ⟨k0,hu⟩
    ·rw [k9]
     simp(maxSteps:=9^9)only[↓VX,VQ,seval,Int.reduceEq]
     refine aloop (envCOk _ _ _) (fun j : Nat => ⟨[(3,.v (.eptr [.int .i64 s.width,.slice 2 (s.forms.map formA)])),(10,.v (.int .i64 n)),(12,.loc 12 0),(13,.v (.slice 1 (own.map strs))),(20,.v (.slice 1 (F.map (AV.int .i64)))),(22,.v (.int .i64 k)),(28,.v (.int .i64 9)),(29,.v (.int .i64 j))],[],[(12,cellsW words own)],m⟩)
      (fun j => j = 0) (fun j => j) 0 (fun _ => rfl) rfl (by (simp only [FE,↓FP,seval]); try simp [cellsW]) ?_
     rintro j rfl
     simp(maxSteps:=9^9)only[↓VX,VQ,seval,Int.reduceEq]
     repeat'(first|intro _|apply And.intro)
     all_goals try first|omega|(simp only[LL];omega)|exact nlC (by decide) _|exact nbC rfl
     all_goals
      refine ⟨k + 1,hBk,by dsimp only; omega,?_⟩
      (simp only [FE,↓FP,seval])
      try simp
    ·rw [k0]
     simp(maxSteps:=9^9)only[↓VX,VQ,seval,Int.reduceEq]
     refine aloop (envCOk _ _ _) (fun j : Nat => ⟨[(3,.v (.eptr [.int .i64 s.width,.slice 2 (s.forms.map formA)])),(10,.v (.int .i64 n)),(12,.loc 12 0),(13,.v (.slice 1 (own.map strs))),(20,.v (.slice 1 (F.map (AV.int .i64)))),(22,.v (.int .i64 k)),(28,.v (.int .i64 0)),(29,.v (.int .i64 j))],[],[(12,cellsW words own)],m⟩)
      (fun j => j ≤ own.length) (fun j => own.length - j) 0 (fun _ => rfl) (Nat.zero_le _) (by (simp only [FE,↓FP,seval]); try simp [cellsW]) ?_
     rintro j hj
     by_cases hjl : j < own.length
     ·have v1 : ((j : Int) < (own.length : Int)) = True := eq_true (by omega)
      have hfew := hfew j hjl
      obtain ⟨f1,f2⟩ := hfw2 j hjl
      rw [f1] at hfew
      generalize (fewestR own[k]! own[j]!).1 = MK at *
      generalize (fewestR own[k]! own[j]!).2.1 = AP at *
      simp(maxSteps:=9^9)only[↓VX,VQ,seval,v1]
      repeat'(first|intro _|apply And.intro)
      all_goals try first|omega|(simp only[LL];omega)|exact nlC (by decide) _|exact nbC rfl
      (refine adraw (by first | exact envOk _ | exact envCOk _ _ _) mixed [⟨false,false,0⟩,⟨false,false,0⟩,⟨false,false,0⟩,⟨false,false,0⟩,⟨false,false,0⟩,⟨false,false,0⟩,⟨false,false,0⟩,⟨false,false,0⟩,⟨false,false,0⟩,⟨false,false,0⟩,⟨false,false,0⟩,⟨false,false,0⟩,⟨false,false,0⟩,⟨false,false,0⟩,⟨false,false,0⟩,⟨false,false,0⟩] (by kernel_rfl) ?_; show vcOpsD _ _ _ (_ :: _) _ _)
      simp(maxSteps:=9^9)only[↓VX,VQ,seval,↓ixRowsW,strs]
      repeat'(first|intro _|apply And.intro)
      all_goals try first|omega|(simp only[LL];omega)|exact nlC (by decide) _|exact nbC rfl
      (refine ⟨_,.inl (hfew),?_⟩; try simp(maxSteps:=9^9)only[↓VX,VQ,seval])
      by_cases hjk : k = j
      ·have ap : (AP = 0) = True := eq_true (f2.2 (by rw [hjk]))
       have jk : ((k : Int) = (j : Int)) = True := eq_true (by omega)
       simp(maxSteps:=9^9)only[↓VX,VQ,seval,ap,jk]
       repeat'(first|intro _|apply And.intro)
       all_goals try first|omega|(simp only[LL];omega)|exact nlC (by decide) _|exact nbC rfl
       refine ⟨j + 1,hjl,by dsimp only; omega,?_⟩
       (simp only [FE,↓FP,seval])
       try simp
      ·have ap : (AP = 0) = False := eq_false fun h => hjk (hu j hjl (f2.1 h).symm).symm
       have jk : ((k : Int) = (j : Int)) = False := eq_false (by omega)
       simp(maxSteps:=9^9)only[↓VX,VQ,seval,ap,jk]
       repeat'(first|intro _|apply And.intro)
       all_goals try first|omega|(simp only[LL];omega)|exact nlC (by decide) _|exact nbC rfl
       refine ⟨j + 1,hjl,by dsimp only; omega,?_⟩
       (simp only [FE,↓FP,seval])
       try simp
     ·have v1 : ((j : Int) < (own.length : Int)) = False := eq_false (by omega)
      simp(maxSteps:=9^9)only[↓VX,VQ,seval,v1]
      repeat'(first|intro _|apply And.intro)
      all_goals try first|omega|(simp only[LL];omega)|exact nlC (by decide) _|exact nbC rfl
      refine ⟨k + 1,hBk,by dsimp only; omega,?_⟩
      (simp only [FE,↓FP,seval])
      try simp
end Go.Proofs.YtdmejgfcaacdoaaGreat.Abs
