/- Lemmas for the statements of this seat (X35): they hold without conditions beyond those that each one states. -/
import Derived.Test.YtdmejgfcaacdoaaGreatX33
import Derived.Test.YtdmejgfcaacdoaaGreatX19
import Derived.Test.YtdmejgfcaacdoaaGreatX27
import Derived.Test.YtdmejgfcaacdoaaGreatX6
/- Contracts: the reference's Check of books. -/
namespace Go.Proofs.YtdmejgfcaacdoaaGreat.Abs
set_option linter.unusedSimpArgs false
set_option maxHeartbeats 4000000
set_option maxRecDepth 100000
open Go Go.RowKit Go.Proofs
theorem inO_c (n lo hi : Int) : PCall Tryz.prog 29 [.int .i64 n,.int .i64 lo,.int .i64 hi] (.bool (!offP lo hi n)) := by
 have h := in_c n lo hi
 have e : decide (lo ≤ n ∧ n ≤ hi) = !offP lo hi n := by
  unfold offP
  rw [Bool.eq_iff_iff]; simp
 rw [e] at h; exact h
theorem refall_c (k : Nat) (hk : k ≤ 4) : PCall Tryz.prog 120 [.int .i64 k] (.int .i64 (((2 ^ k : Nat) : Int) - 1)) := by
 intro m
 (refine acall_intro (E := env fun _ => .imm) (envOk _) rfl Tryz.func120 rfl Tryz.call120 (by kernel_rfl) (by simp [Tryz.ntmps120]) ?_; simp only [Tryz.f120];  simp(maxSteps:=9^9)only[↓VX,VQ,seval])
 refine aloop (envOk _) (fun i : Nat => ⟨[(0,.v (.int .i64 k)),(3,.v (.int .i64 (((2 ^ i : Nat) : Int) - 1))),(4,.v (.int .i64 i))],[],[],m⟩) (fun i => i ≤ k) (fun i => k - i) 0 (fun _ => rfl) (Nat.zero_le _) (by (simp only [FE,↓FP,seval]); try simp) ?_
 rintro i hi
 by_cases hik : i < k
 ·have z1 : ((i : Int) < (k : Int)) = True := eq_true (by omega)
  have hp : 2 ^ i ≤ 2 ^ 4 := Nat.pow_le_pow_right (by decide) (by omega)
  have hs : ((2 ^ (i + 1) : Nat) : Int) = 2 * ((2 ^ i : Nat) : Int) := by rw [Nat.pow_succ]; omega
  have hp2 : (2 : Nat) ^ i ≤ 16 := hp
  have hp0 : 0 < (2 : Nat) ^ i := Nat.pow_pos (by decide)
  simp(maxSteps:=9^9)only[↓VX,VQ,seval,z1]
  generalize hP : 2 ^ i = P at *
  repeat'(first|intro _|apply And.intro)
  all_goals try first|omega|(simp only[LL];omega)|exact nlC (by decide) _|exact nbC rfl
  refine ⟨i + 1,by omega,by dsimp only; omega,?_⟩
  (simp only [FE,↓FP,seval])
  rw [hs,← hP]
  refine ⟨?_,?_⟩
  ·congr 3; omega
  ·congr 3
 ·have z1 : ((i : Int) < (k : Int)) = False := eq_false (by omega)
  obtain rfl : i = k := by omega
  simp(maxSteps:=9^9)only[↓VX,VQ,seval,z1]
theorem refletter_c (a : RAlph) (c : Nat) : PCall Tryz.prog 121 [alphA a,.int .u8 c] (.int .i64 (idxC a.letters c)) := by
 intro m
 simp only [alphA]
 (refine acall_intro (E := env fun _ => .imm) (envOk _) rfl Tryz.func121 rfl Tryz.call121 (by kernel_rfl) (by simp [Tryz.ntmps121]) ?_; simp only [Tryz.f121];  simp(maxSteps:=9^9)only[↓VX,VQ,seval])
 refine aloop (envOk _) (fun i : Nat => ⟨[(1,.v (.int .u8 c)),(2,.v (.eptr [.str a.name,.slice 3 (a.letters.map letrA)])),(5,.v (.int .i64 i))],[],[],m⟩)
  (fun i => i ≤ a.letters.length ∧ ∀ y ∈ a.letters.take i,¬ y.c = c) (fun i => a.letters.length - i) 0 (fun _ => rfl) (by simp) (by (simp only [FE,↓FP,seval]); try simp) ?_
 rintro i ⟨hi,hp⟩
 by_cases hil : i < a.letters.length
 ·have z1 : ((i : Int) < (a.letters.length : Int)) = True := eq_true (by omega)
  have e1 : a.letters[i]! = a.letters[i] := getD_any hil
  by_cases hc : a.letters[i]!.c = c
  ·have c1 : ((a.letters[i]!.c : Int) = (c : Int)) = True := eq_true (by omega)
   simp(maxSteps:=9^9)only[↓VX,VQ,seval,z1,c1]
   repeat'(first|intro _|apply And.intro)
   all_goals try first|omega|(simp only[LL];omega)|exact nlC (by decide) _|exact nbC rfl
   rw [idxC,idxL_at hil (fun y hy => decide_eq_false (hp y hy)) (by rw [← e1]; exact decide_eq_true hc)]
  ·have c1 : ((a.letters[i]!.c : Int) = (c : Int)) = False := eq_false (by omega)
   simp(maxSteps:=9^9)only[↓VX,VQ,seval,z1,c1]
   repeat'(first|intro _|apply And.intro)
   all_goals try first|omega|(simp only[LL];omega)|exact nlC (by decide) _|exact nbC rfl
   refine ⟨i + 1,⟨by omega,forall_take_succ (p := fun y : RLetr => ¬ y.c = c) hil hp (by rw [← e1]; exact hc)⟩,by dsimp only; omega,?_⟩
   (simp only [FE,↓FP,seval])
   simp
 ·have z1 : ((i : Int) < (a.letters.length : Int)) = False := eq_false (by omega)
  have : a.letters.take i = a.letters := List.take_of_length_le (by omega)
  rw [this] at hp
  simp(maxSteps:=9^9)only[↓VX,VQ,seval,z1]
  repeat'(first|intro _|apply And.intro)
  all_goals try first|omega|(simp only[LL];omega)|exact nlC (by decide) _|exact nbC rfl
  rw [idxC,idxL_neg fun y hy => decide_eq_false (hp y hy)]
theorem refspelling_c (b : REar) (x : RSpel) (hx : x.text.size ≤ 9223372036854775807) (hl : b.alphabets.length ≤ 3) :
  PCall Tryz.prog 68 [earA b,spelA x] (.int .i64 (spelE b x)) := by
 intro m
 obtain ⟨E,hE⟩ : ∃ E,E = spelE b x := ⟨_,rfl⟩
 rw [← hE]
 unfold spelE at hE
 have h1 := inO_c x.alphabet 0 ((b.alphabets.length : Int) - 1)
 have h2 := inO_c x.text.size 1 5
 have ho1 : offP 0 ((b.alphabets.length : Int) - 1) x.alphabet = false → 0 ≤ x.alphabet ∧ x.alphabet.toNat < b.alphabets.length := fun h => by
  rw [offP_false] at h
  omega
 generalize offP 0 ((b.alphabets.length : Int) - 1) x.alphabet = o1 at *
 generalize offP 1 5 (x.text.size : Int) = o2 at *
 simp only [earA,earL,spelA]
 (refine acall_intro (E := env fun _ => .imm) (envOk _) rfl Tryz.func68 rfl Tryz.call68 (by kernel_rfl) (by simp [Tryz.ntmps68]) ?_; simp only [Tryz.f68];  simp(maxSteps:=9^9)only[↓VX,VQ,seval])
 repeat'(first|intro _|apply And.intro)
 all_goals try first|omega|(simp only[LL];omega)|exact nlC (by decide) _|exact nbC rfl
 (refine ACall.pure (h1) ?_; try simp(maxSteps:=9^9)only[↓VX,VQ,seval])
 cases o1
 rotate_left
 ·simp(maxSteps:=9^9)only[↓VX,VQ,seval]
  rw [hE]; rfl
 obtain ⟨a1,a2⟩ := ho1 rfl
 rw [if_neg (by decide)] at hE
 simp(maxSteps:=9^9)only[↓VX,VQ,seval]
 repeat'(first|intro _|apply And.intro)
 all_goals try first|omega|(simp only[LL];omega)|exact nlC (by decide) _|exact nbC rfl
 (refine ACall.pure (h2) ?_; try simp(maxSteps:=9^9)only[↓VX,VQ,seval])
 cases o2
 rotate_left
 ·simp(maxSteps:=9^9)only[↓VX,VQ,seval]
  rw [hE]; rfl
 rw [if_neg (by decide)] at hE
 simp(maxSteps:=9^9)only[↓VX,VQ,seval]
 refine aloop (envOk _) (fun k : Nat => ⟨[(2,.v (.eptr [.int .i64 b.sounds,.slice 2 (b.alphabets.map alphA),.slice 2 (b.spellings.map spelA)])),(3,.v (.eptr [.int .i64 x.alphabet,.str x.text])),(5,.v (.int .i64 k))],[],[],m⟩)
  (fun k => k ≤ x.text.size ∧ ∀ j < k,letrHas b.alphabets[x.alphabet.toNat]!.letters (byteAt x.text j) = true) (fun k => x.text.size - k) 0 (fun _ => rfl) (by simp) (by (simp only [FE,↓FP,seval]); try simp) ?_
 rintro k ⟨hk,hp⟩
 by_cases hkl : k < x.text.size
 ·have z1 : ((k : Int) < (x.text.size : Int)) = True := eq_true (by omega)
  have hix := refletter_c b.alphabets[x.alphabet.toNat]! (byteAt x.text k)
  have hlt := idxC_lt b.alphabets[x.alphabet.toNat]!.letters (byteAt x.text k)
  simp only [alphA] at hix
  generalize idxC b.alphabets[x.alphabet.toNat]!.letters (byteAt x.text k) = I at *
  obtain ⟨q,hq⟩ : ∃ q,q = letrHas b.alphabets[x.alphabet.toNat]!.letters (byteAt x.text k) := ⟨_,rfl⟩
  rw [← hq] at hlt
  simp(maxSteps:=9^9)only[↓VX,VQ,seval,z1]
  repeat'(first|intro _|apply And.intro)
  all_goals try first|omega|(simp only[LL];omega)|exact nlC (by decide) _|exact nbC rfl
  (refine adraw (by first | exact envOk _ | exact envCOk _ _ _) mixed [⟨false,false,0⟩,⟨false,false,0⟩,⟨false,false,0⟩,⟨false,false,0⟩,⟨false,false,0⟩,⟨false,false,0⟩,⟨false,false,0⟩,⟨false,false,0⟩,⟨false,false,0⟩,⟨false,false,0⟩,⟨false,false,0⟩,⟨false,false,0⟩] (by kernel_rfl) ?_; show vcOpsD _ _ _ (_ :: _) _ _)
  simp(maxSteps:=9^9)only[↓VX,VQ,seval,byte_fold]
  repeat'(first|intro _|apply And.intro)
  all_goals try first|omega|(simp only[LL];omega)|exact nlC (by decide) _|exact nbC rfl
  (refine ⟨_,.inl (hix),?_⟩; try simp(maxSteps:=9^9)only[↓VX,VQ,seval])
  cases q
  ·have i1 : (I < 0) = True := by rw [hlt]; simp
   simp(maxSteps:=9^9)only[↓VX,VQ,seval,i1]
   rw [hE,if_neg]
   intro h
   have := List.all_eq_true.1 h k (List.mem_range.2 hkl)
   rw [this] at hq; cases hq
  ·have i1 : (I < 0) = False := by rw [hlt]; simp
   simp(maxSteps:=9^9)only[↓VX,VQ,seval,i1]
   repeat'(first|intro _|apply And.intro)
   all_goals try first|omega|(simp only[LL];omega)|exact nlC (by decide) _|exact nbC rfl
   refine ⟨k + 1,⟨by omega,fun j hj => ?_⟩,by dsimp only; omega,?_⟩
   ·by_cases e : j = k
    ·rw [e]; exact hq.symm
    ·exact hp j (by omega)
   ·(simp only [FE,↓FP,seval])
    simp
 ·have z1 : ((k : Int) < (x.text.size : Int)) = False := eq_false (by omega)
  simp(maxSteps:=9^9)only[↓VX,VQ,seval,z1]
  rw [hE,if_pos]
  rw [List.all_eq_true]
  intro j hj
  rw [List.mem_range] at hj
  exact hp j (by omega)
theorem refletters_c (b : REar) (k : Nat) (hk : b.sounds = k) (hk4 : k ≤ 4) (l : List RLetr) (hf : letrsFit l) :
  PCall Tryz.prog 67 [earA b,.slice 3 (l.map letrA)] (.int .i64 (if offP 1 6 l.length = true then 3 else (letrsE k l).2)) := by
 intro m
 obtain ⟨E,hE⟩ : ∃ E,E = (if offP 1 6 l.length = true then 3 else (letrsE k l).2 : Int) := ⟨_,rfl⟩
 rw [← hE]
 unfold letrsE at hE
 have h1 := inO_c l.length 1 6
 have ho : offP 1 6 (l.length : Int) = false → l.length ≤ 6 := fun h => by rw [offP_false] at h; omega
 have hal := refall_c k hk4
 generalize offP 1 6 (l.length : Int) = o at *
 simp only [earA,earL,hk]
 (refine acall_intro (E := env fun _ => .imm) (envOk _) rfl Tryz.func67 rfl Tryz.call67 (by kernel_rfl) (by simp [Tryz.ntmps67]) ?_; simp only [Tryz.f67];  simp(maxSteps:=9^9)only[↓VX,VQ,seval])
 repeat'(first|intro _|apply And.intro)
 (refine ACall.pure (h1) ?_; try simp(maxSteps:=9^9)only[↓VX,VQ,seval])
 cases o
 rotate_left
 ·simp(maxSteps:=9^9)only[↓VX,VQ,seval]
  rw [hE]; rfl
 rw [if_neg (by decide)] at hE
 have hl6 := ho rfl
 simp(maxSteps:=9^9)only[↓VX,VQ,seval]
 refine aloop (envOk _) (fun i : Nat => ⟨[(1,.v (.slice 3 (l.map letrA))),(2,.v (.eptr [.int .i64 k,.slice 2 (b.alphabets.map alphA),.slice 2 (b.spellings.map spelA)])),(5,.v (.int .i64 i))],[],[],m⟩)
  (fun i => i ≤ l.length ∧ ∀ j < i,letrE k l j l[j]! = 0) (fun i => l.length - i) 0 (fun _ => rfl) (by simp) (by (simp only [FE,↓FP,seval]); try simp) ?_
 rintro i ⟨hi,hp⟩
 by_cases hil : i < l.length
 rotate_left
 ·have z1 : ((i : Int) < (l.length : Int)) = False := eq_false (by omega)
  have h0 : (failFrom (letrE k l) 0 l).2 = 0 := failFrom_zero.2 fun j hj => by
   have := hp j (by omega)
   rw [Nat.zero_add]
   rwa [getElem!_pos l j hj] at this
  simp(maxSteps:=9^9)only[↓VX,VQ,seval,z1]
  rw [hE,h0]
  exact fun _ => rfl
 have z1 : ((i : Int) < (l.length : Int)) = True := eq_true (by omega)
 have hc256 : l[i]!.c < 256 := hf _ (by rw [getD_any hil]; exact List.getElem_mem hil)
 have hat : ∀ e,letrE k l i l[i]! = e → e ≠ 0 → E = e := by
  intro e he hne
  have := failFrom_at (f := letrE k l) (n := 0) hil (by simpa only [Nat.zero_add] using hp) (by rw [Nat.zero_add,he]; exact hne)
  rw [Nat.zero_add,he] at this
  rw [hE,this]
 have hls : letrE k l i l[i]! = if offP 97 122 l[i]!.c = true then 6 else if (l.take i).any (fun y => decide (y.c = l[i]!.c)) = true then 5 else if offP 0 (((2 ^ k : Nat) : Int) - 1) l[i]!.sounds = true then 7 else if l[i]!.sounds = 0 ∧ l[i]!.silent = false then 2 else 0 := rfl
 have g1 := inO_c l[i]!.c 97 122
 have g2 := inO_c l[i]!.sounds 0 (((2 ^ k : Nat) : Int) - 1)
 have hpk : (2 : Nat) ^ k ≤ 2 ^ 4 := Nat.pow_le_pow_right (by decide) hk4
 have hpk2 : (2 : Nat) ^ k ≤ 16 := hpk
 generalize offP 97 122 l[i]!.c = o1 at *
 generalize offP 0 (((2 ^ k : Nat) : Int) - 1) l[i]!.sounds = o2 at *
 generalize 2 ^ k = P at *
 cases o1
 rotate_left
 ·simp(maxSteps:=9^9)only[↓VX,VQ,seval,z1]
  repeat'(first|intro _|apply And.intro)
  all_goals try first|omega|(simp only[LL];omega)|exact nlC (by decide) _|exact nbC rfl
  (refine ACall.pure (g1) ?_; try simp(maxSteps:=9^9)only[↓VX,VQ,seval])
  rw [hat 6 (by rw [hls]; rfl) (by decide)]
 rw [if_neg (by decide)] at hls
 simp(maxSteps:=9^9)only[↓VX,VQ,seval,z1]
 repeat'(first|intro _|apply And.intro)
 all_goals try first|omega|(simp only[LL];omega)|exact nlC (by decide) _|exact nbC rfl
 (refine ACall.pure (g1) ?_; try simp(maxSteps:=9^9)only[↓VX,VQ,seval])
 refine aloop (envOk _) (fun j : Nat => ⟨[(1,.v (.slice 3 (l.map letrA))),(2,.v (.eptr [.int .i64 k,.slice 2 (b.alphabets.map alphA),.slice 2 (b.spellings.map spelA)])),(5,.v (.int .i64 i)),(6,.v (.int .i64 j))],[],[],m⟩)
  (fun j => j ≤ i ∧ ∀ y ∈ l.take j,¬ y.c = l[i]!.c) (fun j => i - j) 0 (fun _ => rfl) (by simp) (by (simp only [FE,↓FP,seval]); try simp) ?_
 rintro j ⟨hj,hq⟩
 by_cases hjl : j < i
 ·have y1 : ((j : Int) < (i : Int)) = True := eq_true (by omega)
  have hjl2 : j < l.length := by omega
  by_cases hc : l[j]!.c = l[i]!.c
  ·have c1 : ((l[j]!.c : Int) = (l[i]!.c : Int)) = True := eq_true (by omega)
   simp(maxSteps:=9^9)only[↓VX,VQ,seval,y1]
   (refine adraw (by first | exact envOk _ | exact envCOk _ _ _) mixed [⟨false,false,0⟩,⟨false,false,0⟩,⟨false,false,0⟩,⟨false,false,0⟩,⟨false,false,0⟩,⟨false,false,0⟩,⟨false,false,0⟩,⟨false,false,0⟩,⟨false,false,0⟩,⟨false,false,0⟩,⟨false,false,0⟩] (by kernel_rfl) ?_; show vcOpsD _ _ _ (_ :: _) _ _)
   simp(maxSteps:=9^9)only[↓VX,VQ,seval,c1]
   repeat'(first|intro _|apply And.intro)
   all_goals try first|omega|(simp only[LL];omega)|exact nlC (by decide) _|exact nbC rfl
   rw [hat 5 (by
    rw [hls,if_pos]
    rw [List.any_eq_true]
    refine ⟨l[j]!,?_,decide_eq_true hc⟩
    rw [getD_any hjl2]
    rw [List.mem_take_iff_getElem]
    exact ⟨j,by omega,rfl⟩) (by decide)]
  ·have c1 : ((l[j]!.c : Int) = (l[i]!.c : Int)) = False := eq_false (by omega)
   simp(maxSteps:=9^9)only[↓VX,VQ,seval,y1]
   (refine adraw (by first | exact envOk _ | exact envCOk _ _ _) mixed [⟨false,false,0⟩,⟨false,false,0⟩,⟨false,false,0⟩,⟨false,false,0⟩,⟨false,false,0⟩,⟨false,false,0⟩,⟨false,false,0⟩,⟨false,false,0⟩,⟨false,false,0⟩,⟨false,false,0⟩,⟨false,false,0⟩] (by kernel_rfl) ?_; show vcOpsD _ _ _ (_ :: _) _ _)
   simp(maxSteps:=9^9)only[↓VX,VQ,seval,c1]
   repeat'(first|intro _|apply And.intro)
   all_goals try first|omega|(simp only[LL];omega)|exact nlC (by decide) _|exact nbC rfl
   refine ⟨j + 1,⟨by omega,forall_take_succ (p := fun y : RLetr => ¬ y.c = l[i]!.c) hjl2 hq (by rw [← getD_any hjl2]; exact hc)⟩,by dsimp only; omega,?_⟩
   (simp only [FE,↓FP,seval])
   simp
 ·have y1 : ((j : Int) < (i : Int)) = False := eq_false (by omega)
  obtain rfl : j = i := by omega
  have hany : (l.take j).any (fun y => decide (y.c = l[j]!.c)) = false := by
   rw [List.any_eq_false]
   intro y hy
   simpa using hq y hy
  rw [hany,if_neg (by decide)] at hls
  simp(maxSteps:=9^9)only[↓VX,VQ,seval,y1]
  (refine adraw (by first | exact envOk _ | exact envCOk _ _ _) mixed [⟨false,false,0⟩,⟨false,false,0⟩,⟨false,false,0⟩,⟨false,false,0⟩,⟨false,false,0⟩,⟨false,false,0⟩,⟨false,false,0⟩,⟨false,false,0⟩,⟨false,false,0⟩,⟨false,false,0⟩] (by kernel_rfl) ?_; show vcOpsD _ _ _ (_ :: _) _ _)
  simp(maxSteps:=9^9)only[↓VX,VQ,seval]
  repeat'(first|intro _|apply And.intro)
  all_goals try first|omega|(simp only[LL];omega)|exact nlC (by decide) _|exact nbC rfl
  refine ⟨_,.inl hal,?_⟩
  simp(maxSteps:=9^9)only[↓VX,VQ,seval]
  repeat'(first|intro _|apply And.intro)
  all_goals try first|omega|(simp only[LL];omega)|exact nlC (by decide) _|exact nbC rfl
  refine ⟨_,.inl g2,?_⟩
  cases o2
  rotate_left
  ·simp(maxSteps:=9^9)only[↓VX,VQ,seval]
   rw [hat 7 (by rw [hls]; rfl) (by decide)]
  rw [if_neg (by decide)] at hls
  by_cases s0 : l[j]!.sounds = 0
  ·have s1 : (l[j]!.sounds = 0) = True := eq_true s0
   obtain ⟨t,ht⟩ : ∃ t,t = l[j]!.silent := ⟨_,rfl⟩
   cases t
   ·rw [if_pos ⟨s0,ht.symm⟩] at hls
    simp(maxSteps:=9^9)only[↓VX,VQ,seval,s1,← ht]
    repeat'(first|intro _|apply And.intro)
    all_goals try first|omega|(simp only[LL];omega)|exact nlC (by decide) _|exact nbC rfl
    rw [hat 2 hls (by decide)]
   ·rw [if_neg (fun q => by rw [q.2] at ht; cases ht)] at hls
    simp(maxSteps:=9^9)only[↓VX,VQ,seval,s1,← ht]
    repeat'(first|intro _|apply And.intro)
    all_goals try first|omega|(simp only[LL];omega)|exact nlC (by decide) _|exact nbC rfl
    refine ⟨j + 1,⟨by omega,fun n hn => ?_⟩,by dsimp only; omega,?_⟩
    ·by_cases e : n = j
     ·rw [e]; exact hls
     ·exact hp n (by omega)
    ·(simp only [FE,↓FP,seval])
     simp
  ·have s1 : (l[j]!.sounds = 0) = False := eq_false s0
   rw [if_neg (fun q => s0 q.1)] at hls
   simp(maxSteps:=9^9)only[↓VX,VQ,seval,s1]
   repeat'(first|intro _|apply And.intro)
   all_goals try first|omega|(simp only[LL];omega)|exact nlC (by decide) _|exact nbC rfl
   refine ⟨j + 1,⟨by omega,fun n hn => ?_⟩,by dsimp only; omega,?_⟩
   ·by_cases e : n = j
    ·rw [e]; exact hls
    ·exact hp n (by omega)
   ·(simp only [FE,↓FP,seval])
    simp
theorem namesA_any (l : List RAlph) (k : Nat) (nm : ByteArray) : ((l.take k).map RAlph.name).any (fun x => decide (x = nm)) = (l.take k).any (fun y => decide (y.name = nm)) := by
 rw [List.any_map]; rfl
theorem refcheck1_c (b : REar) (hb : earFit b) : PCall Tryz.prog 17 [earA b] (.tuple [.int .i64 (checkE b).1,.int .i64 (checkE b).2.1,.int .i64 (checkE b).2.2]) := by
 intro m
 obtain ⟨E,hE⟩ : ∃ E,E = checkE b := ⟨_,rfl⟩
 rw [← hE]
 unfold checkE at hE
 have h1 := inO_c b.sounds 1 4
 have h2 := inO_c b.alphabets.length 1 3
 have ho1 : offP 1 4 b.sounds = false → 1 ≤ b.sounds ∧ b.sounds ≤ 4 := fun h => by rw [offP_false] at h; exact h
 have ho2 : offP 1 3 (b.alphabets.length : Int) = false → b.alphabets.length ≤ 3 := fun h => by rw [offP_false] at h; omega
 have hsp := fun (x : RSpel) hx hl => refspelling_c b x hx hl
 have hlt := fun k hk hk4 l hf => refletters_c b k hk hk4 l hf
 generalize offP 1 4 b.sounds = o1 at *
 generalize offP 1 3 (b.alphabets.length : Int) = o2 at *
 simp only [earA,earL] at hsp hlt ⊢
 (refine acall_intro (E := envC (modeAt [5] []) false [9]) (envCOk _ _ _) rfl Tryz.func17 rfl Tryz.call17 (by kernel_rfl) (by simp [Tryz.ntmps17]) ?_; simp only [Tryz.f17];  simp(maxSteps:=9^9)only[↓VX,VQ,seval])
 (refine ACall.pure (h1) ?_; try simp(maxSteps:=9^9)only[↓VX,VQ,seval])
 cases o1
 rotate_left
 ·simp(maxSteps:=9^9)only[↓VX,VQ,seval]
  rw [hE]; rfl
 rw [if_neg (by decide)] at hE
 obtain ⟨b1,b4⟩ := ho1 rfl
 have hlt := hlt b.sounds.toNat (by omega) (by omega)
 simp(maxSteps:=9^9)only[↓VX,VQ,seval]
 repeat'(first|intro _|apply And.intro)
 all_goals try first|omega|(simp only[LL];omega)|exact nlC (by decide) _|exact nbC rfl
 (refine ACall.pure (h2) ?_; try simp(maxSteps:=9^9)only[↓VX,VQ,seval])
 cases o2
 rotate_left
 ·simp(maxSteps:=9^9)only[↓VX,VQ,seval]
  rw [hE]; rfl
 rw [if_neg (by decide)] at hE
 have hl3 := ho2 rfl
 have hsp := fun (x : RSpel) hx => hsp x hx hl3
 simp(maxSteps:=9^9)only[↓VX,VQ,seval]
 refine aloop (envCOk _ _ _) (fun k : Nat => ⟨[(1,.v (.eptr [.int .i64 b.sounds,.slice 2 (b.alphabets.map alphA),.slice 2 (b.spellings.map spelA)])),(5,.v (.slice 1 (((b.alphabets.take k).map RAlph.name).map AV.str))),(6,.v (.int .i64 k))],[5],[],m⟩)
  (fun k => k ≤ b.alphabets.length ∧ ∀ i < k,alphE b i b.alphabets[i]! = 0) (fun k => b.alphabets.length - k) 0 (fun _ => rfl) (by simp) (by (simp only [FE,↓FP,seval]); try simp) ?_
 rintro k ⟨hk,hp⟩
 by_cases hkl : k < b.alphabets.length
 ·have hk' : ((k : Int) < (b.alphabets.length : Int)) = True := eq_true (by omega)
  obtain ⟨f1,f2⟩ := hb.a b.alphabets[k]! (by rw [getD_any hkl]; exact List.getElem_mem hkl)
  have hfr := fresh_c b.alphabets[k]!.name ((b.alphabets.take k).map RAlph.name) f1
  rw [namesA_any] at hfr
  have hlt := hlt b.alphabets[k]!.letters f2
  have hat : ∀ e,alphE b k b.alphabets[k]! = e → e ≠ 0 → E = (2,(k : Int),e) := by
   intro e he hne
   have := failFrom_at (f := alphE b) (n := 0) hkl (by simpa only [Nat.zero_add] using hp) (by rw [Nat.zero_add,he]; exact hne)
   rw [Nat.zero_add,he] at this
   rw [hE]; unfold alphsE; rw [this]; dsimp only; rw [if_pos hne]
  obtain ⟨z,hz⟩ : ∃ z,z = (if nameB b.alphabets[k]!.name = true then (if (b.alphabets.take k).any (fun y => decide (y.name = b.alphabets[k]!.name)) = true then (5 : Int) else 0) else 6) := ⟨_,rfl⟩
  rw [← hz] at hfr
  obtain ⟨u,hu⟩ : ∃ u,u = (if offP 1 6 (b.alphabets[k]!.letters.length : Int) = true then 3 else (letrsE b.sounds.toNat b.alphabets[k]!.letters).2 : Int) := ⟨_,rfl⟩
  rw [← hu] at hlt
  have hae : alphE b k b.alphabets[k]! = if z ≠ 0 then z else u := by
   rw [hz,hu]
   unfold alphE
   by_cases q1 : nameB b.alphabets[k]!.name = true
   ·rw [if_pos q1,if_pos q1]
    by_cases q2 : (b.alphabets.take k).any (fun y => decide (y.name = b.alphabets[k]!.name)) = true
    ·rw [if_pos q2,if_pos q2,if_pos (by decide)]
    ·rw [if_neg q2,if_neg q2]; rfl
   ·rw [if_neg q1,if_neg q1,if_pos (by decide)]
  simp only [strs] at hfr
  have htk : ((b.alphabets.take k).map RAlph.name).length ≤ 4 := by rw [List.length_map,List.length_take]; omega
  have htk2 : (b.alphabets.take (k + 1)).map RAlph.name = (b.alphabets.take k).map RAlph.name ++ [b.alphabets[k]!.name] := by rw [take_snoc hkl,List.map_append]; rfl
  simp(maxSteps:=9^9)only[↓VX,VQ,seval,hk']
  repeat'(first|intro _|apply And.intro)
  all_goals try first|omega|(simp only[LL];omega)|exact nlC (by decide) _|exact nbC rfl
  refine acut_keep_at 6 (envCOk _ _ _) rfl rfl rfl (fun (_ : Unit) => ⟨[(1,.v (.eptr [.int .i64 b.sounds,.slice 2 (b.alphabets.map alphA),.slice 2 (b.spellings.map spelA)])),(5,.v (.slice 1 (((b.alphabets.take k).map RAlph.name).map AV.str))),(6,.v (.int .i64 k)),(7,.v (.int .i64 z))],[5],[],m⟩) (fun _ => True) (fun _ => rfl) ?_ ?_
  ·show vcOps _ _ (_ :: _) _ _
   simp(maxSteps:=9^9)only[↓VX,VQ,seval,List.take_succ_cons,List.take_zero]
   refine ⟨⟨by omega,hkl⟩,?_⟩
   refine ⟨fun _ h => h.elim,?_⟩
   refine ACall.pure hfr ?_
   simp(maxSteps:=9^9)only[↓VX,VQ,seval]
   exact ⟨(),by (simp only [FE,↓FP,seval])⟩
  rintro _ _
  have hsz : ((List.take k b.alphabets).length + 1) * 16 ≤ 140737488355328 := by rw [List.length_take]; omega
  by_cases z0 : z = 0
  ·have z1 : (z = 0) = True := eq_true z0
   rw [if_neg (fun q => q z0)] at hae
   simp(maxSteps:=9^9)only[↓VX,VQ,seval,z1]
   repeat'(first|intro _|apply And.intro)
   all_goals try first|omega|(simp only[LL];omega)|exact nlC (by decide) _|exact nbC rfl
   (refine adraw (by first | exact envOk _ | exact envCOk _ _ _) mixed [⟨false,false,0⟩,⟨false,false,0⟩,⟨false,false,0⟩,⟨false,false,0⟩,⟨false,false,0⟩,⟨false,false,0⟩,⟨false,false,0⟩,⟨false,false,0⟩,⟨false,false,0⟩] (by kernel_rfl) ?_; show vcOpsD _ _ _ (_ :: _) _ _)
   simp(maxSteps:=9^9)only[↓VX,VQ,seval]
   repeat'(first|intro _|apply And.intro)
   all_goals try first|omega|(simp only[LL];omega)|exact nlC (by decide) _|exact nbC rfl
   (refine ⟨_,.inl (hlt),?_⟩; try simp(maxSteps:=9^9)only[↓VX,VQ,seval])
   by_cases u0 : u = 0
   ·have u1 : (u = 0) = True := eq_true u0
    simp(maxSteps:=9^9)only[↓VX,VQ,seval,u1]
    repeat'(first|intro _|apply And.intro)
    all_goals try first|omega|(simp only[LL];omega)|exact nlC (by decide) _|exact nbC rfl
    refine ⟨k + 1,⟨by omega,fun n hn => ?_⟩,by dsimp only; omega,?_⟩
    ·by_cases e : n = k
     ·rw [e,hae]; exact u0
     ·exact hp n (by omega)
    ·(simp only [FE,↓FP,seval])
     rw [htk2]
     simp
   ·have u1 : (u = 0) = False := eq_false u0
    simp(maxSteps:=9^9)only[↓VX,VQ,seval,u1]
    repeat'(first|intro _|apply And.intro)
    all_goals try first|omega|(simp only[LL];omega)|exact nlC (by decide) _|exact nbC rfl
    rw [hat u hae u0]
  ·have z1 : (z = 0) = False := eq_false z0
   rw [if_pos z0] at hae
   simp(maxSteps:=9^9)only[↓VX,VQ,seval,z1]
   repeat'(first|intro _|apply And.intro)
   all_goals try first|omega|(simp only[LL];omega)|exact nlC (by decide) _|exact nbC rfl
   rw [hat z hae z0]
 ·have hk' : ((k : Int) < (b.alphabets.length : Int)) = False := eq_false (by omega)
  have h0 : (alphsE b).2 = 0 := failFrom_zero.2 fun i hi => by
   have := hp i (by omega)
   rw [Nat.zero_add]
   rwa [getElem!_pos b.alphabets i hi] at this
  rw [if_neg (by simp [h0])] at hE
  by_cases g0 : 5 < b.spellings.length
  ·rw [if_pos g0] at hE
   have g1 : ((5 : Int) < (b.spellings.length : Int)) = True := eq_true (by omega)
   simp(maxSteps:=9^9)only[↓VX,VQ,seval,hk',g1]
   repeat'(first|intro _|apply And.intro)
   all_goals try first|omega|(simp only[LL];omega)|exact nlC (by decide) _|exact nbC rfl
   rw [hE]
  rw [if_neg g0] at hE
  have g1 : ((5 : Int) < (b.spellings.length : Int)) = False := eq_false (by omega)
  simp(maxSteps:=9^9)only[↓VX,VQ,seval,hk',g1]
  repeat'(first|intro _|apply And.intro)
  all_goals try first|omega|(simp only[LL];omega)|exact nlC (by decide) _|exact nbC rfl
  refine aloop (envCOk _ _ _) (fun k : Nat => ⟨[(1,.v (.eptr [.int .i64 b.sounds,.slice 2 (b.alphabets.map alphA),.slice 2 (b.spellings.map spelA)])),(8,.v (.int .i64 k))],[],[],m⟩)
   (fun k => k ≤ b.spellings.length ∧ ∀ i < k,spelE b b.spellings[i]! = 0) (fun k => b.spellings.length - k) 0 (fun _ => rfl) (by simp) (by (simp only [FE,↓FP,seval]); try simp) ?_
  rintro j ⟨hj,hq⟩
  by_cases hjl : j < b.spellings.length
  ·have y1 : ((j : Int) < (b.spellings.length : Int)) = True := eq_true (by omega)
   have hsp := hsp b.spellings[j]! (hb.s _ (by rw [getD_any hjl]; exact List.getElem_mem hjl))
   obtain ⟨u,hu⟩ : ∃ u,u = spelE b b.spellings[j]! := ⟨_,rfl⟩
   rw [← hu] at hsp
   simp only [spelA] at hsp
   simp(maxSteps:=9^9)only[↓VX,VQ,seval,y1]
   repeat'(first|intro _|apply And.intro)
   all_goals try first|omega|(simp only[LL];omega)|exact nlC (by decide) _|exact nbC rfl
   (refine adraw (by first | exact envOk _ | exact envCOk _ _ _) mixed [⟨false,false,0⟩,⟨false,false,0⟩,⟨false,false,0⟩,⟨false,false,0⟩,⟨false,false,0⟩,⟨false,false,0⟩,⟨false,false,0⟩,⟨false,false,0⟩] (by kernel_rfl) ?_; show vcOpsD _ _ _ (_ :: _) _ _)
   simp(maxSteps:=9^9)only[↓VX,VQ,seval]
   repeat'(first|intro _|apply And.intro)
   all_goals try first|omega|(simp only[LL];omega)|exact nlC (by decide) _|exact nbC rfl
   (refine ⟨_,.inl (hsp),?_⟩; try simp(maxSteps:=9^9)only[↓VX,VQ,seval])
   by_cases u0 : u = 0
   ·have u1 : (u = 0) = True := eq_true u0
    simp(maxSteps:=9^9)only[↓VX,VQ,seval,u1]
    repeat'(first|intro _|apply And.intro)
    all_goals try first|omega|(simp only[LL];omega)|exact nlC (by decide) _|exact nbC rfl
    refine ⟨j + 1,⟨by omega,fun n hn => ?_⟩,by dsimp only; omega,?_⟩
    ·by_cases e : n = j
     ·rw [e,← hu]; exact u0
     ·exact hq n (by omega)
    ·(simp only [FE,↓FP,seval])
     simp
   ·have u1 : (u = 0) = False := eq_false u0
    simp(maxSteps:=9^9)only[↓VX,VQ,seval,u1]
    repeat'(first|intro _|apply And.intro)
    all_goals try first|omega|(simp only[LL];omega)|exact nlC (by decide) _|exact nbC rfl
    have := failFrom_at (f := fun _ => spelE b) (n := 0) hjl (by simpa only [Nat.zero_add] using hq) (by rw [← hu]; exact u0)
    rw [Nat.zero_add,← hu] at this
    rw [hE]
    unfold spelsE
    rw [this]; dsimp only; rw [if_pos u0]
  ·have y1 : ((j : Int) < (b.spellings.length : Int)) = False := eq_false (by omega)
   have h0 : (spelsE b).2 = 0 := failFrom_zero.2 fun i hi => by
    have := hq i (by omega)
    rwa [getElem!_pos b.spellings i hi] at this
   simp(maxSteps:=9^9)only[↓VX,VQ,seval,y1]
   repeat'(first|intro _|apply And.intro)
   all_goals try first|omega|(simp only[LL];omega)|exact nlC (by decide) _|exact nbC rfl
   rw [hE,if_neg (by simp [h0])]
end Go.Proofs.YtdmejgfcaacdoaaGreat.Abs
