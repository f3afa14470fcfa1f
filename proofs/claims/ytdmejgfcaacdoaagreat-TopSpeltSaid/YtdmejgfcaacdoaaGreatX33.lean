/- Lemmas for the statements of this seat (X33): they hold without conditions beyond those that each one states. -/
import Derived.Test.YtdmejgfcaacdoaaGreatX17
import Derived.Test.YtdmejgfcaacdoaaGreatX15
/- Contracts: a letter's index; what letters cannot be like. -/
namespace Go.Proofs.YtdmejgfcaacdoaaGreat.Abs
set_option linter.unusedSimpArgs false
set_option maxHeartbeats 4000000
set_option maxRecDepth 100000
open Go Go.RowKit Go.Proofs
def letrsA (l : List RLetr) : AV := .slice 3 (l.map letrA)
theorem indexLetr_c (g : FuncId) (caps : List AV) (l : List RLetr) (p : RLetr → Bool) (h : ∀ x ∈ l,PCall Tryz.prog g ([letrA x] ++ caps) (.bool (p x))) :
  PCall Tryz.prog 165 [letrsA l,.fn (.func g) [] caps] (.int .i64 (idxL p l)) := by
 intro m
 simp only [letrsA]
 (refine acall_len Tryz.call165 fun hlen => ?_; refine acall_intro (E := env fun _ => .imm) (envOk _) rfl Tryz.func165 rfl Tryz.call165 (by kernel_rfl) (by simp [Tryz.ntmps165]) ?_; simp only [Tryz.f165];  simp(maxSteps:=9^9)only[↓VX,VQ,seval])
 simp only [lenOk_cons,lenOk_nil,List.length_map,and_true,maxLen_eq] at hlen
 intro _
 refine aloop (envOk _) (fun k : Nat => ⟨[(0,.v (.slice 3 (l.map letrA))),(1,.v (.fn (.func g) [] caps)),(7,.v (.int .i64 l.length)),(8,.v (.int .i64 k))],[],[],m⟩) (fun k => k ≤ l.length ∧ ∀ x ∈ l.take k,p x = false) (fun k => l.length - k) 0 (fun _ => rfl) (by simp) (by (simp only [FE,↓FP,seval]); try simp) ?_
 rintro k ⟨hk,hp⟩
 simp(maxSteps:=9^9)only[↓VX,VQ,seval]
 repeat'(first|intro _|apply And.intro)
 all_goals try first|omega|(simp only[LL];omega)|exact nlC (by decide) _|exact nbC rfl
 ·have hlt : k < l.length := by omega
  have e1 : l[k]! = l[k] := getD_any hlt
  have hc := h _ (List.getElem_mem hlt)
  rw [← e1] at hc
  refine ACall.pure hc ?_
  simp(maxSteps:=9^9)only[↓VX,VQ,seval]
  repeat'(first|intro _|apply And.intro)
  all_goals try first|omega|(simp only[LL];omega)|exact nlC (by decide) _|exact nbC rfl
  ·rename_i hpx
   rw [idxL_at hlt hp (by rw [← e1]; exact hpx)]
  ·have hpx : ¬ p l[k]! = true := by assumption
   refine ⟨k + 1,⟨by omega,forall_take_succ hlt hp (by rw [← e1]; simpa using hpx)⟩,by dsimp only; omega,?_⟩
   (simp only [FE,↓FP,seval])
   simp
 ·have : l.take k = l := List.take_of_length_le (by omega)
  rw [this] at hp
  rw [idxL_neg hp]
theorem index1_c (x : RLetr) (c : Nat) : PCall Tryz.prog 166 [letrA x,.eptr [.int .u8 c]] (.bool (decide (x.c = c))) := by
 intro m
 simp only [letrA]
 have he : ((x.c : Int) = (c : Int)) = (x.c = c) := by rw [eq_iff_iff]; omega
 (refine acall_intro (E := env fun _ => .imm) (envOk _) rfl Tryz.func166 rfl Tryz.call166 (by kernel_rfl) (by simp [Tryz.ntmps166]) ?_; simp only [Tryz.f166];  simp(maxSteps:=9^9)only[↓VX,VQ,seval])
 simp only [he]
 repeat'(first|intro _|apply And.intro)
theorem index_c (l : List RLetr) (c : Nat) : PCall Tryz.prog 127 [letrsA l,.int .u8 c] (.int .i64 (idxC l c)) := by
 intro m
 have h := indexLetr_c 166 [.eptr [.int .u8 c]] l (fun y => decide (y.c = c)) (fun x _ => index1_c x c)
 simp only [letrsA] at h ⊢
 (refine acall_intro (E := env fun _ => .imm) (envOk _) rfl Tryz.func127 rfl Tryz.call127 (by kernel_rfl) (by simp [Tryz.ntmps127]) ?_; simp only [Tryz.f127];  simp(maxSteps:=9^9)only[↓VX,VQ,seval])
 (refine ACall.pure (h) ?_; try simp(maxSteps:=9^9)only[↓VX,VQ,seval])
 repeat'(first|intro _|apply And.intro)
 rfl
theorem beyondOne_c (lo hi n : Int) : PCall Tryz.prog 123 [.int .i64 lo,.int .i64 hi,.slice 1 [.int .i64 n]] (.bool (offP lo hi n)) := by
 have := beyond_c lo hi [n]
 simpa [ints] using this
def letrsFit (l : List RLetr) : Prop := ∀ x ∈ l,x.c < 256
def flawP (k : Nat) (l : List RLetr) (i : Nat) : Nat → Bool
 | 0 => offP 97 122 (l[i]!).c
 | 1 => (l.take i).any fun y => decide (y.c = (l[i]!).c)
 | 2 => offP 0 (((2 ^ k : Nat) : Int) - 1) (l[i]!).sounds
 | _ => decide ((l[i]!).sounds = 0 ∧ (l[i]!).silent = false)
theorem flaws1_c (l : List RLetr) (hf : letrsFit l) (i : Nat) (hi : i < l.length) (k : Nat) : PCall Tryz.prog 174 [letrsA l,.int .i64 i] (.bool (flawP k l i 0)) := by
 intro m
 have hx : (l[i]!).c < 256 := hf _ (by rw [getD_any hi]; exact List.getElem_mem hi)
 simp only [letrsA,flawP]
 (refine acall_intro (E := env fun _ => .imm) (envOk _) rfl Tryz.func174 rfl Tryz.call174 (by kernel_rfl) (by simp [Tryz.ntmps174]) ?_; simp only [Tryz.f174];  simp(maxSteps:=9^9)only[↓VX,VQ,seval])
 repeat'(first|intro _|apply And.intro)
 all_goals try first|omega|(simp only[LL];omega)|exact nlC (by decide) _|exact nbC rfl
 (refine ACall.pure (beyondOne_c 97 122 (l[i]!).c) ?_; try simp(maxSteps:=9^9)only[↓VX,VQ,seval])
theorem flaws2_c (l : List RLetr) (i : Nat) (hi : i < l.length) (k : Nat) : PCall Tryz.prog 175 [letrsA l,.int .i64 i] (.bool (flawP k l i 1)) := by
 intro m
 have h := index_c (l.take i) (l[i]!).c
 have hany := idxL_any (fun y : RLetr => decide (y.c = (l[i]!).c)) (l.take i)
 simp only [letrsA,flawP,idxC,List.map_take] at h ⊢
 rw [← hany]
 generalize idxL (fun y : RLetr => decide (y.c = (l[i]!).c)) (l.take i) = I at *
 (refine acall_intro (E := env fun _ => .imm) (envOk _) rfl Tryz.func175 rfl Tryz.call175 (by kernel_rfl) (by simp [Tryz.ntmps175]) ?_; simp only [Tryz.f175];  simp(maxSteps:=9^9)only[↓VX,VQ,seval])
 (refine adraw (by first | exact envOk _ | exact envCOk _ _ _) mixed [⟨false,false,0⟩,⟨false,false,0⟩,⟨false,false,0⟩,⟨false,false,0⟩,⟨false,false,0⟩,⟨false,false,0⟩,⟨false,false,0⟩,⟨false,false,0⟩,⟨false,false,0⟩,⟨false,false,0⟩,⟨false,false,0⟩] (by kernel_rfl) ?_; show vcOpsD _ _ _ (_ :: _) _ _)
 simp(maxSteps:=9^9)only[↓VX,VQ,seval]
 repeat'(first|intro _|apply And.intro)
 all_goals try first|omega|(simp only[LL];omega)|exact nlC (by decide) _|exact nbC rfl
 (refine ⟨_,.inl (h),?_⟩; try simp(maxSteps:=9^9)only[↓VX,VQ,seval])
theorem flaws3_c (l : List RLetr) (i : Nat) (hi : i < l.length) (k : Nat) (hk : k ≤ 4) : PCall Tryz.prog 176 [letrsA l,.int .i64 i,.eptr [.int .i64 k]] (.bool (flawP k l i 2)) := by
 intro m
 simp only [letrsA,flawP]
 have h := beyondOne_c 0 (((2 ^ k : Nat) : Int) - 1) (l[i]!).sounds
 have hp : 2 ^ k ≤ 2 ^ 4 := Nat.pow_le_pow_right (by decide) hk
 (refine acall_intro (E := env fun _ => .imm) (envOk _) rfl Tryz.func176 rfl Tryz.call176 (by kernel_rfl) (by simp [Tryz.ntmps176]) ?_; simp only [Tryz.f176];  simp(maxSteps:=9^9)only[↓VX,VQ,seval])
 (refine adraw (by first | exact envOk _ | exact envCOk _ _ _) mixed [⟨false,false,0⟩,⟨false,false,0⟩,⟨false,false,0⟩,⟨false,false,0⟩,⟨false,false,0⟩,⟨false,false,0⟩,⟨false,false,0⟩,⟨false,false,0⟩,⟨false,false,0⟩,⟨false,false,0⟩,⟨false,false,0⟩] (by kernel_rfl) ?_; show vcOpsD _ _ _ (_ :: _) _ _)
 simp(maxSteps:=9^9)only[↓VX,VQ,seval]
 generalize 2 ^ k = P at *
 have hp2 : P ≤ 16 := hp
 refine ⟨⟨by omega,by omega,by omega,by omega⟩,⟨by omega,by omega⟩,⟨by omega,hi⟩,?_⟩
 (refine ⟨_,.inl (h),?_⟩; try simp(maxSteps:=9^9)only[↓VX,VQ,seval])
theorem flaws4_c (l : List RLetr) (i : Nat) (hi : i < l.length) (k : Nat) : PCall Tryz.prog 177 [letrsA l,.int .i64 i] (.bool (flawP k l i 3)) := by
 intro m
 simp only [letrsA,flawP]
 (refine acall_intro (E := env fun _ => .imm) (envOk _) rfl Tryz.func177 rfl Tryz.call177 (by kernel_rfl) (by simp [Tryz.ntmps177]) ?_; simp only [Tryz.f177];  simp(maxSteps:=9^9)only[↓VX,VQ,seval])
 repeat'(first|intro _|apply And.intro)
 all_goals try first|omega|(simp only[LL];omega)|exact nlC (by decide) _|exact nbC rfl
 all_goals simp_all
theorem failingLetr_c (g : FuncId) (caps : List AV) (l : List RLetr) (f : Nat → RLetr → Int) (h : ∀ (i : Nat) (_hi : i < l.length),PCall Tryz.prog g ([.int .i64 i,letrA l[i]!] ++ caps) (.int .i64 (f i l[i]!))) :
  PCall Tryz.prog 158 [.slice 3 (l.map letrA),.fn (.func g) [] caps] (.tuple [.int .i64 (failFrom f 0 l).1,.int .i64 (failFrom f 0 l).2]) := by
 intro m
 simp only [letrA,List.cons_append,List.nil_append] at h
 refine acall_len Tryz.call158 fun hlen => ?_; (refine acall_intro (E := envC (modeAt [7] []) false []) (envCOk _ _ _) rfl Tryz.func158 rfl Tryz.call158 (by kernel_rfl) (by simp [Tryz.ntmps158]) ?_; simp only [Tryz.f158];  simp(maxSteps:=9^9)only[↓VX,VQ,seval])
 simp only [lenOk_cons,lenOk_nil,List.length_map,and_true,maxLen_eq] at hlen
 intro _
 refine aloop (envCOk _ _ _) (fun k : Nat => ⟨[(0,.v (.slice 3 (l.map letrA))),(1,.v (.fn (.func g) [] caps)),(9,.v (.slice 3 (l.map letrA))),(10,.v (.int .i64 l.length)),(11,.v (.int .i64 k))],[],[],m⟩)
  (fun k => k ≤ l.length ∧ failFrom f k (l.drop k) = failFrom f 0 l) (fun k => l.length - k) 0 (fun _ => rfl) (by simp) (by (simp only [FE,↓FP,seval]); try simp) ?_
 rintro k ⟨hk,hf⟩
 simp(maxSteps:=9^9)only[↓VX,VQ,seval]
 repeat'(first|intro _|apply And.intro)
 all_goals try first|omega|(simp only[LL];omega)|exact nlC (by decide) _|exact nbC rfl
 ·have hlt : k < l.length := by omega
  have e1 : l[k]! = l[k] := getD_any hlt
  rw [List.drop_eq_getElem_cons hlt] at hf
  have hc := h k hlt
  refine ACall.pure hc ?_
  simp(maxSteps:=9^9)only[↓VX,VQ,seval]
  repeat'(first|intro _|apply And.intro)
  all_goals try first|omega|(simp only[LL];omega)|exact nlC (by decide) _|exact nbC rfl
  ·have hne : f k l[k]! ≠ 0 := by assumption
   rw [e1] at hne
   rw [← hf,failFrom_hit hne,e1]
  ·have heq : ¬ f k l[k]! ≠ 0 := by assumption
   rw [e1] at heq
   rw [failFrom_skip heq] at hf
   (refine ⟨k + 1,?_,by dsimp only; omega,?_⟩; rotate_left 1; · ((simp only [FE,↓FP,seval]); try simp []))
   exact ⟨by omega,hf⟩
 ·rw [List.drop_eq_nil_of_le (by omega)] at hf
  rw [← hf]; rfl
theorem failingAlph_c (g : FuncId) (caps : List AV) (l : List RAlph) (f : Nat → RAlph → Int) (h : ∀ (i : Nat) (_hi : i < l.length),PCall Tryz.prog g ([.int .i64 i,alphA l[i]!] ++ caps) (.int .i64 (f i l[i]!))) :
  PCall Tryz.prog 154 [.slice 2 (l.map alphA),.fn (.func g) [] caps] (.tuple [.int .i64 (failFrom f 0 l).1,.int .i64 (failFrom f 0 l).2]) := by
 intro m
 simp only [alphA,List.cons_append,List.nil_append] at h
 refine acall_len Tryz.call154 fun hlen => ?_; (refine acall_intro (E := envC (modeAt [7] []) false []) (envCOk _ _ _) rfl Tryz.func154 rfl Tryz.call154 (by kernel_rfl) (by simp [Tryz.ntmps154]) ?_; simp only [Tryz.f154];  simp(maxSteps:=9^9)only[↓VX,VQ,seval])
 simp only [lenOk_cons,lenOk_nil,List.length_map,and_true,maxLen_eq] at hlen
 intro _
 refine aloop (envCOk _ _ _) (fun k : Nat => ⟨[(0,.v (.slice 2 (l.map alphA))),(1,.v (.fn (.func g) [] caps)),(9,.v (.slice 2 (l.map alphA))),(10,.v (.int .i64 l.length)),(11,.v (.int .i64 k))],[],[],m⟩)
  (fun k => k ≤ l.length ∧ failFrom f k (l.drop k) = failFrom f 0 l) (fun k => l.length - k) 0 (fun _ => rfl) (by simp) (by (simp only [FE,↓FP,seval]); try simp) ?_
 rintro k ⟨hk,hf⟩
 simp(maxSteps:=9^9)only[↓VX,VQ,seval]
 repeat'(first|intro _|apply And.intro)
 all_goals try first|omega|(simp only[LL];omega)|exact nlC (by decide) _|exact nbC rfl
 ·have hlt : k < l.length := by omega
  have e1 : l[k]! = l[k] := getD_any hlt
  rw [List.drop_eq_getElem_cons hlt] at hf
  have hc := h k hlt
  refine ACall.pure hc ?_
  simp(maxSteps:=9^9)only[↓VX,VQ,seval]
  repeat'(first|intro _|apply And.intro)
  all_goals try first|omega|(simp only[LL];omega)|exact nlC (by decide) _|exact nbC rfl
  ·have hne : f k l[k]! ≠ 0 := by assumption
   rw [e1] at hne
   rw [← hf,failFrom_hit hne,e1]
  ·have heq : ¬ f k l[k]! ≠ 0 := by assumption
   rw [e1] at heq
   rw [failFrom_skip heq] at hf
   (refine ⟨k + 1,?_,by dsimp only; omega,?_⟩; rotate_left 1; · ((simp only [FE,↓FP,seval]); try simp []))
   exact ⟨by omega,hf⟩
 ·rw [List.drop_eq_nil_of_le (by omega)] at hf
  rw [← hf]; rfl
theorem failingSpel_c (g : FuncId) (caps : List AV) (l : List RSpel) (f : Nat → RSpel → Int) (h : ∀ (i : Nat) (_hi : i < l.length),PCall Tryz.prog g ([.int .i64 i,spelA l[i]!] ++ caps) (.int .i64 (f i l[i]!))) :
  PCall Tryz.prog 161 [.slice 2 (l.map spelA),.fn (.func g) [] caps] (.tuple [.int .i64 (failFrom f 0 l).1,.int .i64 (failFrom f 0 l).2]) := by
 intro m
 simp only [spelA,List.cons_append,List.nil_append] at h
 refine acall_len Tryz.call161 fun hlen => ?_; (refine acall_intro (E := envC (modeAt [7] []) false []) (envCOk _ _ _) rfl Tryz.func161 rfl Tryz.call161 (by kernel_rfl) (by simp [Tryz.ntmps161]) ?_; simp only [Tryz.f161];  simp(maxSteps:=9^9)only[↓VX,VQ,seval])
 simp only [lenOk_cons,lenOk_nil,List.length_map,and_true,maxLen_eq] at hlen
 intro _
 refine aloop (envCOk _ _ _) (fun k : Nat => ⟨[(0,.v (.slice 2 (l.map spelA))),(1,.v (.fn (.func g) [] caps)),(9,.v (.slice 2 (l.map spelA))),(10,.v (.int .i64 l.length)),(11,.v (.int .i64 k))],[],[],m⟩)
  (fun k => k ≤ l.length ∧ failFrom f k (l.drop k) = failFrom f 0 l) (fun k => l.length - k) 0 (fun _ => rfl) (by simp) (by (simp only [FE,↓FP,seval]); try simp) ?_
 rintro k ⟨hk,hf⟩
 simp(maxSteps:=9^9)only[↓VX,VQ,seval]
 repeat'(first|intro _|apply And.intro)
 all_goals try first|omega|(simp only[LL];omega)|exact nlC (by decide) _|exact nbC rfl
 ·have hlt : k < l.length := by omega
  have e1 : l[k]! = l[k] := getD_any hlt
  rw [List.drop_eq_getElem_cons hlt] at hf
  have hc := h k hlt
  refine ACall.pure hc ?_
  simp(maxSteps:=9^9)only[↓VX,VQ,seval]
  repeat'(first|intro _|apply And.intro)
  all_goals try first|omega|(simp only[LL];omega)|exact nlC (by decide) _|exact nbC rfl
  ·have hne : f k l[k]! ≠ 0 := by assumption
   rw [e1] at hne
   rw [← hf,failFrom_hit hne,e1]
  ·have heq : ¬ f k l[k]! ≠ 0 := by assumption
   rw [e1] at heq
   rw [failFrom_skip heq] at hf
   (refine ⟨k + 1,?_,by dsimp only; omega,?_⟩; rotate_left 1; · ((simp only [FE,↓FP,seval]); try simp []))
   exact ⟨by omega,hf⟩
 ·rw [List.drop_eq_nil_of_le (by omega)] at hf
  rw [← hf]; rfl
def flawF (k : Nat) : List AV := [.agg [.int .i64 6,.fn (.func 174) [] []],.agg [.int .i64 5,.fn (.func 175) [] []],.agg [.int .i64 7,.fn (.func 176) [] [.eptr [.int .i64 k]]],.agg [.int .i64 2,.fn (.func 177) [] []]]
theorem flaws_c (k : Nat) : PCall Tryz.prog 160 [.int .i64 k] (.slice 2 (flawF k)) := by
 intro m
 simp only [flawF]
 (refine acall_intro (E := env fun _ => .imm) (envOk _) rfl Tryz.func160 rfl Tryz.call160 (by kernel_rfl) (by simp [Tryz.ntmps160]) ?_; simp only [Tryz.f160];  simp(maxSteps:=9^9)only[↓VX,VQ,seval])
 try rfl
theorem check12_c (b : REar) (k : Nat) (hk : b.sounds = k) (hk4 : k ≤ 4) (a : RAlph) (hf : letrsFit a.letters) (i : Nat) (hi : i < a.letters.length) (x : RLetr) :
  PCall Tryz.prog 159 [.int .i64 i,letrA x,.eptr (earL b),.eptr [.str a.name,.slice 3 (a.letters.map letrA)]] (.int .i64 (letrE k a.letters i (a.letters[i]!))) := by
 intro m
 have h0 := flaws_c k
 have h1 := flaws1_c a.letters hf i hi k
 have h2 := flaws2_c a.letters i hi k
 have h3 := flaws3_c a.letters i hi k hk4
 have h4 := flaws4_c a.letters i hi k
 obtain ⟨E,hE⟩ : ∃ E,E = letrE k a.letters i (a.letters[i]!) := ⟨_,rfl⟩
 rw [← hE]
 have hE2 : E = if flawP k a.letters i 0 = true then 6 else if flawP k a.letters i 1 = true then 5 else if flawP k a.letters i 2 = true then 7 else if flawP k a.letters i 3 = true then 2 else 0 := by
  rw [hE]
  unfold letrE flawP
  simp only [decide_eq_true_eq]
 clear hE
 generalize flawP k a.letters i = q at *
 simp only [letrsA,flawF,earL,letrA,hk] at h0 h1 h2 h3 h4 ⊢
 refine ACall.forget ?_
 (refine acall_intro (E := envC (modeAt [8] []) false []) (envCOk _ _ _) rfl Tryz.func159 rfl Tryz.call159 (by kernel_rfl) (by simp [Tryz.ntmps159]) ?_; simp only [Tryz.f159];  simp(maxSteps:=9^9)only[↓VX,VQ,seval])
 refine ACall.pure h0 ?_
 simp(maxSteps:=9^9)only[↓VX,VQ,seval]
 refine aloop (envCOk _ _ _) (fun j : Nat => ⟨[(0,.v (.int .i64 i)),(3,.v (.eptr [.str a.name,.slice 3 (a.letters.map letrA)])),(11,.v (.slice 2 (flawF k))),(12,.v (.int .i64 4)),(13,.v (.int .i64 j))],[],[],m⟩)
  (fun j => j ≤ 4 ∧ ∀ n < j,q n = false) (fun j => 4 - j) 0 (fun _ => rfl) (by simp) (by (simp only [FE,↓FP,seval]); repeat' (first | rfl | apply And.intro)) ?_
 rintro j ⟨hj,hq⟩
 have hj4 : j = 0 ∨ j = 1 ∨ j = 2 ∨ j = 3 ∨ j = 4 := by omega
 have hnext : q j = false → ∀ n < j + 1,q n = false := fun e n hn => by
  by_cases e2 : n = j
  ·rw [e2]; exact e
  ·exact hq n (by omega)
 have q0 : 0 < j → q 0 = false := hq 0
 have q1 : 1 < j → q 1 = false := hq 1
 have q2 : 2 < j → q 2 = false := hq 2
 have q3 : 3 < j → q 3 = false := hq 3
 rcases hj4 with rfl | rfl | rfl | rfl | rfl
 all_goals try
  simp(maxSteps:=9^9)only[↓VX,VQ,seval,flawF]
  refine ⟨_,rfl,by decide,?_⟩
  simp(maxSteps:=9^9)only[↓VX,VQ,seval]
 ·refine ACall.pure h1 ?_
  generalize q 0 = c at *
  cases c
  ·simp(maxSteps:=9^9)only[↓VX,VQ,seval]
   repeat'(first|intro _|apply And.intro)
   all_goals try first|omega|(simp only[LL];omega)|exact nlC (by decide) _|exact nbC rfl
   refine ⟨1,⟨by decide,hnext rfl⟩,by decide,?_⟩
   (simp only [FE,↓FP,seval])
   try rfl
  ·simp(maxSteps:=9^9)only[↓VX,VQ,seval]
   repeat'(first|intro _|apply And.intro)
   all_goals try first|omega|(simp only[LL];omega)|exact nlC (by decide) _|exact nbC rfl
   refine ⟨m,fun _ _ h => h,?_,rfl⟩
   rw [hE2,if_pos rfl]
 ·refine ACall.pure h2 ?_
  generalize q 1 = c at *
  cases c
  ·simp(maxSteps:=9^9)only[↓VX,VQ,seval]
   repeat'(first|intro _|apply And.intro)
   all_goals try first|omega|(simp only[LL];omega)|exact nlC (by decide) _|exact nbC rfl
   refine ⟨2,⟨by decide,hnext rfl⟩,by decide,?_⟩
   (simp only [FE,↓FP,seval])
   try rfl
  ·simp(maxSteps:=9^9)only[↓VX,VQ,seval]
   repeat'(first|intro _|apply And.intro)
   all_goals try first|omega|(simp only[LL];omega)|exact nlC (by decide) _|exact nbC rfl
   refine ⟨m,fun _ _ h => h,?_,rfl⟩
   rw [hE2,if_neg (by rw [q0 (by decide)]; decide),if_pos rfl]
 ·refine ACall.pure h3 ?_
  generalize q 2 = c at *
  cases c
  ·simp(maxSteps:=9^9)only[↓VX,VQ,seval]
   repeat'(first|intro _|apply And.intro)
   all_goals try first|omega|(simp only[LL];omega)|exact nlC (by decide) _|exact nbC rfl
   refine ⟨3,⟨by decide,hnext rfl⟩,by decide,?_⟩
   (simp only [FE,↓FP,seval])
   try rfl
  ·simp(maxSteps:=9^9)only[↓VX,VQ,seval]
   repeat'(first|intro _|apply And.intro)
   all_goals try first|omega|(simp only[LL];omega)|exact nlC (by decide) _|exact nbC rfl
   refine ⟨m,fun _ _ h => h,?_,rfl⟩
   rw [hE2,if_neg (by rw [q0 (by decide)]; decide),if_neg (by rw [q1 (by decide)]; decide),if_pos rfl]
 ·refine ACall.pure h4 ?_
  generalize q 3 = c at *
  cases c
  ·simp(maxSteps:=9^9)only[↓VX,VQ,seval]
   repeat'(first|intro _|apply And.intro)
   all_goals try first|omega|(simp only[LL];omega)|exact nlC (by decide) _|exact nbC rfl
   refine ⟨4,⟨by decide,hnext rfl⟩,by decide,?_⟩
   (simp only [FE,↓FP,seval])
   try rfl
  ·simp(maxSteps:=9^9)only[↓VX,VQ,seval]
   repeat'(first|intro _|apply And.intro)
   all_goals try first|omega|(simp only[LL];omega)|exact nlC (by decide) _|exact nbC rfl
   refine ⟨m,fun _ _ h => h,?_,rfl⟩
   rw [hE2,if_neg (by rw [q0 (by decide)]; decide),if_neg (by rw [q1 (by decide)]; decide),if_neg (by rw [q2 (by decide)]; decide),if_pos rfl]
 ·simp(maxSteps:=9^9)only[↓VX,VQ,seval]
  refine ⟨m,fun _ _ h => h,?_,rfl⟩
  rw [hE2,q0 (by decide),q1 (by decide),q2 (by decide),q3 (by decide)]
  rfl
theorem indexAlph_c (g : FuncId) (caps : List AV) (l : List RAlph) (p : RAlph → Bool) (h : ∀ x ∈ l,PCall Tryz.prog g ([alphA x] ++ caps) (.bool (p x))) :
  PCall Tryz.prog 173 [.slice 2 (l.map alphA),.fn (.func g) [] caps] (.int .i64 (idxL p l)) := by
 intro m
 (refine acall_len Tryz.call173 fun hlen => ?_; refine acall_intro (E := env fun _ => .imm) (envOk _) rfl Tryz.func173 rfl Tryz.call173 (by kernel_rfl) (by simp [Tryz.ntmps173]) ?_; simp only [Tryz.f173];  simp(maxSteps:=9^9)only[↓VX,VQ,seval])
 simp only [lenOk_cons,lenOk_nil,List.length_map,and_true,maxLen_eq] at hlen
 intro _
 refine aloop (envOk _) (fun k : Nat => ⟨[(0,.v (.slice 2 (l.map alphA))),(1,.v (.fn (.func g) [] caps)),(7,.v (.int .i64 l.length)),(8,.v (.int .i64 k))],[],[],m⟩) (fun k => k ≤ l.length ∧ ∀ x ∈ l.take k,p x = false) (fun k => l.length - k) 0 (fun _ => rfl) (by simp) (by (simp only [FE,↓FP,seval]); try simp) ?_
 rintro k ⟨hk,hp⟩
 simp(maxSteps:=9^9)only[↓VX,VQ,seval]
 repeat'(first|intro _|apply And.intro)
 all_goals try first|omega|(simp only[LL];omega)|exact nlC (by decide) _|exact nbC rfl
 ·have hlt : k < l.length := by omega
  have e1 : l[k]! = l[k] := getD_any hlt
  have hc := h _ (List.getElem_mem hlt)
  rw [← e1] at hc
  refine ACall.pure hc ?_
  simp(maxSteps:=9^9)only[↓VX,VQ,seval]
  repeat'(first|intro _|apply And.intro)
  all_goals try first|omega|(simp only[LL];omega)|exact nlC (by decide) _|exact nbC rfl
  ·rename_i hpx
   rw [idxL_at hlt hp (by rw [← e1]; exact hpx)]
  ·have hpx : ¬ p l[k]! = true := by assumption
   refine ⟨k + 1,⟨by omega,forall_take_succ hlt hp (by rw [← e1]; simpa using hpx)⟩,by dsimp only; omega,?_⟩
   (simp only [FE,↓FP,seval])
   simp
 ·have : l.take k = l := List.take_of_length_le (by omega)
  rw [this] at hp
  rw [idxL_neg hp]
theorem containsAlph_c (g : FuncId) (caps : List AV) (l : List RAlph) (p : RAlph → Bool) (h : ∀ x ∈ l,PCall Tryz.prog g ([alphA x] ++ caps) (.bool (p x))) :
  PCall Tryz.prog 156 [.slice 2 (l.map alphA),.fn (.func g) [] caps] (.bool (l.any p)) := by
 intro m
 have hi := indexAlph_c g caps l p h
 (refine acall_intro (E := env fun _ => .imm) (envOk _) rfl Tryz.func156 rfl Tryz.call156 (by kernel_rfl) (by simp [Tryz.ntmps156]) ?_; simp only [Tryz.f156];  simp(maxSteps:=9^9)only[↓VX,VQ,seval])
 (refine ACall.pure (hi) ?_; try simp(maxSteps:=9^9)only[↓VX,VQ,seval])
 repeat'(first|intro _|apply And.intro)
 rw [idxL_any]
theorem check11_c (x a : RAlph) : PCall Tryz.prog 157 [alphA x,.eptr [.str a.name,.slice 3 (a.letters.map letrA)]] (.bool (decide (x.name = a.name))) := by
 intro m
 simp only [alphA]
 (refine acall_intro (E := env fun _ => .imm) (envOk _) rfl Tryz.func157 rfl Tryz.call157 (by kernel_rfl) (by simp [Tryz.ntmps157]) ?_; simp only [Tryz.f157];  simp(maxSteps:=9^9)only[↓VX,VQ,seval])
 repeat'(first|intro _|apply And.intro)
structure earFit (b : REar) : Prop where
 a : ∀ x ∈ b.alphabets,x.name.size ≤ 9223372036854775807 ∧ letrsFit x.letters
 s : ∀ x ∈ b.spellings,x.text.size ≤ 9223372036854775807
theorem earcheck1_c (b : REar) (hb : earFit b) (hk : 1 ≤ b.sounds ∧ b.sounds ≤ 4) (i : Nat) (hi : i < b.alphabets.length) :
  PCall Tryz.prog 155 [.int .i64 i,alphA b.alphabets[i]!,.eptr (earL b)] (.int .i64 (alphE b i b.alphabets[i]!)) := by
 intro m
 have hk' : b.sounds = ((b.sounds.toNat : Nat) : Int) := by omega
 obtain ⟨f1,f2⟩ := hb.a b.alphabets[i]! (by rw [getD_any hi]; exact List.getElem_mem hi)
 obtain ⟨E,hE⟩ : ∃ E,E = alphE b i b.alphabets[i]! := ⟨_,rfl⟩
 rw [← hE]
 unfold alphE letrsE at hE
 have h1 := name_c b.alphabets[i]!.name f1
 have h2 := containsAlph_c 157 [.eptr [.str b.alphabets[i]!.name,.slice 3 (b.alphabets[i]!.letters.map letrA)]] (b.alphabets.take i) (fun y => decide (y.name = b.alphabets[i]!.name)) (fun x _ => check11_c x _)
 have h3 := beyondOne_c 1 6 b.alphabets[i]!.letters.length
 have h4 := failingLetr_c 159 [.eptr (earL b),.eptr [.str b.alphabets[i]!.name,.slice 3 (b.alphabets[i]!.letters.map letrA)]] b.alphabets[i]!.letters (letrE b.sounds.toNat b.alphabets[i]!.letters)
  (fun j hj => check12_c b b.sounds.toNat hk' (by omega) b.alphabets[i]! f2 j hj _)
 generalize failFrom (letrE b.sounds.toNat b.alphabets[i]!.letters) 0 b.alphabets[i]!.letters = F at *
 generalize ((b.alphabets.take i).any fun y => decide (y.name = b.alphabets[i]!.name)) = d at *
 simp only [earL,alphA,List.map_take] at h2 h4 ⊢
 (refine acall_intro (E := env fun _ => .imm) (envOk _) rfl Tryz.func155 rfl Tryz.call155 (by kernel_rfl) (by simp [Tryz.ntmps155]) ?_; simp only [Tryz.f155];  simp(maxSteps:=9^9)only[↓VX,VQ,seval])
 generalize nameB b.alphabets[i]!.name = n at *
 generalize offP 1 6 b.alphabets[i]!.letters.length = o at *
 (refine ACall.pure (h1) ?_; try simp(maxSteps:=9^9)only[↓VX,VQ,seval])
 cases n
 ·simp(maxSteps:=9^9)only[↓VX,VQ,seval]
  rw [hE]; rfl
 ·simp(maxSteps:=9^9)only[↓VX,VQ,seval]
  repeat'(first|intro _|apply And.intro)
  all_goals try first|omega|(simp only[LL];omega)|exact nlC (by decide) _|exact nbC rfl
  (refine ACall.pure (h2) ?_; try simp(maxSteps:=9^9)only[↓VX,VQ,seval])
  cases d
  ·simp(maxSteps:=9^9)only[↓VX,VQ,seval]
   repeat'(first|intro _|apply And.intro)
   all_goals try first|omega|(simp only[LL];omega)|exact nlC (by decide) _|exact nbC rfl
   (refine ACall.pure (h3) ?_; try simp(maxSteps:=9^9)only[↓VX,VQ,seval])
   cases o
   ·simp(maxSteps:=9^9)only[↓VX,VQ,seval]
    (refine ACall.pure (h4) ?_; try simp(maxSteps:=9^9)only[↓VX,VQ,seval])
    rw [hE]; rfl
   ·simp(maxSteps:=9^9)only[↓VX,VQ,seval]
    rw [hE]; rfl
  ·simp(maxSteps:=9^9)only[↓VX,VQ,seval]
   rw [hE]; rfl
theorem idxC_lt (l : List RLetr) (c : Nat) : (idxC l c < 0) = (letrHas l c = false) := by
 have h := idxL_any (fun y : RLetr => decide (y.c = c)) l
 unfold idxC letrHas
 rw [← h,decide_eq_false_iff_not]
 rw [eq_iff_iff]; omega
theorem earcheck2_c (b : REar) (_hb : earFit b) (i : Int) (x : RSpel) (hx : x.text.size ≤ 9223372036854775807) (hl : b.alphabets.length ≤ 3) :
  PCall Tryz.prog 162 [.int .i64 i,spelA x,.eptr (earL b)] (.int .i64 (spelE b x)) := by
 intro m
 obtain ⟨E,hE⟩ : ∃ E,E = spelE b x := ⟨_,rfl⟩
 rw [← hE]
 unfold spelE at hE
 have h1 := beyondOne_c 0 ((b.alphabets.length : Int) - 1) x.alphabet
 have h2 := beyondOne_c 1 5 x.text.size
 have ho1 : offP 0 ((b.alphabets.length : Int) - 1) x.alphabet = false → 0 ≤ x.alphabet ∧ x.alphabet.toNat < b.alphabets.length := fun h => by
  rw [offP_false] at h
  omega
 generalize offP 0 ((b.alphabets.length : Int) - 1) x.alphabet = o1 at *
 generalize offP 1 5 x.text.size = o2 at *
 simp only [earL,spelA]
 (refine acall_intro (E := env fun _ => .imm) (envOk _) rfl Tryz.func162 rfl Tryz.call162 (by kernel_rfl) (by simp [Tryz.ntmps162]) ?_; simp only [Tryz.f162];  simp(maxSteps:=9^9)only[↓VX,VQ,seval])
 repeat'(first|intro _|apply And.intro)
 all_goals try first|omega|(simp only[LL];omega)|exact nlC (by decide) _|exact nbC rfl
 (refine ACall.pure (h1) ?_; try simp(maxSteps:=9^9)only[↓VX,VQ,seval])
 cases o1
 rotate_left
 ·simp(maxSteps:=9^9)only[↓VX,VQ,seval]
  rw [hE]; rfl
 obtain ⟨a1,a2⟩ := ho1 rfl
 rw [if_neg (by decide)] at hE
 simp(maxSteps:=9^9)only[↓VX,VQ,seval]
 repeat'(first|intro _|apply And.intro)
 all_goals try first|omega|(simp only[LL];omega)|exact nlC (by decide) _|exact nbC rfl
 (refine ACall.pure (h2) ?_; try simp(maxSteps:=9^9)only[↓VX,VQ,seval])
 cases o2
 rotate_left
 ·simp(maxSteps:=9^9)only[↓VX,VQ,seval]
  rw [hE]; rfl
 rw [if_neg (by decide)] at hE
 simp(maxSteps:=9^9)only[↓VX,VQ,seval]
 repeat'(first|intro _|apply And.intro)
 all_goals try first|omega|(simp only[LL];omega)|exact nlC (by decide) _|exact nbC rfl
 refine aloop (envOk _) (fun k : Nat => ⟨[(2,.v (.eptr [.int .i64 b.sounds,.slice 2 (b.alphabets.map alphA),.slice 2 (b.spellings.map spelA)])),(4,.v (.eptr [.int .i64 x.alphabet,.str x.text])),(24,.v (.int .i64 x.text.size)),(25,.v (.int .i64 k))],[],[],m⟩)
  (fun k => k ≤ x.text.size ∧ ∀ j < k,letrHas b.alphabets[x.alphabet.toNat]!.letters (byteAt x.text j) = true) (fun k => x.text.size - k) 0 (fun _ => rfl) (by simp) (by (simp only [FE,↓FP,seval]); try simp) ?_
 rintro k ⟨hk,hp⟩
 by_cases hkl : k < x.text.size
 ·have z1 : ((k : Int) < (x.text.size : Int)) = True := eq_true (by omega)
  have hix := index_c b.alphabets[x.alphabet.toNat]!.letters (byteAt x.text k)
  have hlt := idxC_lt b.alphabets[x.alphabet.toNat]!.letters (byteAt x.text k)
  simp only [letrsA] at hix
  generalize idxC b.alphabets[x.alphabet.toNat]!.letters (byteAt x.text k) = I at *
  obtain ⟨q,hq⟩ : ∃ q,q = letrHas b.alphabets[x.alphabet.toNat]!.letters (byteAt x.text k) := ⟨_,rfl⟩
  rw [← hq] at hlt
  simp(maxSteps:=9^9)only[↓VX,VQ,seval,z1]
  repeat'(first|intro _|apply And.intro)
  all_goals try first|omega|(simp only[LL];omega)|exact nlC (by decide) _|exact nbC rfl
  (refine adraw (by first | exact envOk _ | exact envCOk _ _ _) mixed [⟨false,false,0⟩,⟨false,false,0⟩,⟨false,false,0⟩,⟨false,false,0⟩,⟨false,false,0⟩,⟨false,false,0⟩,⟨false,false,0⟩,⟨false,false,0⟩,⟨false,false,0⟩,⟨false,false,0⟩,⟨false,false,0⟩,⟨false,false,0⟩,⟨false,false,0⟩] (by kernel_rfl) ?_; show vcOpsD _ _ _ (_ :: _) _ _)
  simp(maxSteps:=9^9)only[↓VX,VQ,seval,byte_fold]
  repeat'(first|intro _|apply And.intro)
  all_goals try first|omega|(simp only[LL];omega)|exact nlC (by decide) _|exact nbC rfl
  (refine ⟨_,.inl (hix),?_⟩; try simp(maxSteps:=9^9)only[↓VX,VQ,seval])
  cases q
  ·have i1 : (I < 0) = True := by rw [hlt]; simp
   simp(maxSteps:=9^9)only[↓VX,VQ,seval,i1]
   rw [hE,if_neg]
   intro h
   have := List.all_eq_true.1 h k (List.mem_range.2 hkl)
   rw [this] at hq; cases hq
  ·have i1 : (I < 0) = False := by rw [hlt]; simp
   simp(maxSteps:=9^9)only[↓VX,VQ,seval,i1]
   repeat'(first|intro _|apply And.intro)
   all_goals try first|omega|(simp only[LL];omega)|exact nlC (by decide) _|exact nbC rfl
   refine ⟨k + 1,⟨by omega,fun j hj => ?_⟩,by dsimp only; omega,?_⟩
   ·by_cases e : j = k
    ·rw [e]; exact hq.symm
    ·exact hp j (by omega)
   ·(simp only [FE,↓FP,seval])
    simp
 ·have z1 : ((k : Int) < (x.text.size : Int)) = False := eq_false (by omega)
  simp(maxSteps:=9^9)only[↓VX,VQ,seval,z1]
  rw [hE,if_pos]
  rw [List.all_eq_true]
  intro j hj
  rw [List.mem_range] at hj
  exact hp j (by omega)
theorem earcheck_c (b : REar) (hb : earFit b) : PCall Tryz.prog 122 [earA b] (.tuple [.int .i64 (checkE b).1,.int .i64 (checkE b).2.1,.int .i64 (checkE b).2.2]) := by
 intro m
 obtain ⟨E,hE⟩ : ∃ E,E = checkE b := ⟨_,rfl⟩
 rw [← hE]
 unfold checkE alphsE spelsE at hE
 have h1 := beyondOne_c 1 4 b.sounds
 have h2 := beyondOne_c 1 3 b.alphabets.length
 have ho1 : offP 1 4 b.sounds = false → 1 ≤ b.sounds ∧ b.sounds ≤ 4 := fun h => by rw [offP_false] at h; exact h
 have ho2 : offP 1 3 (b.alphabets.length : Int) = false → b.alphabets.length ≤ 3 := fun h => by rw [offP_false] at h; omega
 have h3 := fun hk => failingAlph_c 155 [.eptr (earL b)] b.alphabets (alphE b) (fun j hj => earcheck1_c b hb hk j hj)
 have h4 := fun hl => failingSpel_c 162 [.eptr (earL b)] b.spellings (fun _ => spelE b) (fun j hj => earcheck2_c b hb j b.spellings[j]! (hb.s _ (by rw [getD_any hj]; exact List.getElem_mem hj)) hl)
 generalize failFrom (alphE b) 0 b.alphabets = F at *
 generalize failFrom (fun _ => spelE b) 0 b.spellings = G at *
 generalize offP 1 4 b.sounds = o1 at *
 generalize offP 1 3 (b.alphabets.length : Int) = o2 at *
 simp only [earA,earL] at h3 h4 ⊢
 (refine acall_intro (E := env fun _ => .imm) (envOk _) rfl Tryz.func122 rfl Tryz.call122 (by kernel_rfl) (by simp [Tryz.ntmps122]) ?_; simp only [Tryz.f122];  simp(maxSteps:=9^9)only[↓VX,VQ,seval])
 (refine ACall.pure (h1) ?_; try simp(maxSteps:=9^9)only[↓VX,VQ,seval])
 cases o1
 rotate_left
 ·simp(maxSteps:=9^9)only[↓VX,VQ,seval]
  rw [hE]; rfl
 rw [if_neg (by decide)] at hE
 have h3 := h3 (ho1 rfl)
 simp(maxSteps:=9^9)only[↓VX,VQ,seval]
 repeat'(first|intro _|apply And.intro)
 all_goals try first|omega|(simp only[LL];omega)|exact nlC (by decide) _|exact nbC rfl
 (refine ACall.pure (h2) ?_; try simp(maxSteps:=9^9)only[↓VX,VQ,seval])
 cases o2
 rotate_left
 ·simp(maxSteps:=9^9)only[↓VX,VQ,seval]
  rw [hE]; rfl
 rw [if_neg (by decide)] at hE
 have h4 := h4 (ho2 rfl)
 simp(maxSteps:=9^9)only[↓VX,VQ,seval]
 repeat'(first|intro _|apply And.intro)
 all_goals try first|omega|(simp only[LL];omega)|exact nlC (by decide) _|exact nbC rfl
 (refine ACall.pure (h3) ?_; try simp(maxSteps:=9^9)only[↓VX,VQ,seval])
 by_cases f0 : F.2 = 0
 rotate_left
 ·rw [if_pos f0] at hE
  have f1 : (F.2 = 0) = False := eq_false f0
  simp(maxSteps:=9^9)only[↓VX,VQ,seval,f1]
  rw [hE]
 rw [if_neg (fun q => q f0)] at hE
 have f1 : (F.2 = 0) = True := eq_true f0
 by_cases g0 : 5 < b.spellings.length
 ·rw [if_pos g0] at hE
  have g1 : ((5 : Int) < (b.spellings.length : Int)) = True := eq_true (by omega)
  simp(maxSteps:=9^9)only[↓VX,VQ,seval,f1,g1]
  repeat'(first|intro _|apply And.intro)
  all_goals try first|omega|(simp only[LL];omega)|exact nlC (by decide) _|exact nbC rfl
  rw [hE]
 rw [if_neg g0] at hE
 have g1 : ((5 : Int) < (b.spellings.length : Int)) = False := eq_false (by omega)
 simp(maxSteps:=9^9)only[↓VX,VQ,seval,f1,g1]
 repeat'(first|intro _|apply And.intro)
 all_goals try first|omega|(simp only[LL];omega)|exact nlC (by decide) _|exact nbC rfl
 (refine ACall.pure (h4) ?_; try simp(maxSteps:=9^9)only[↓VX,VQ,seval])
 by_cases e0 : G.2 = 0
 ·rw [if_neg (fun q => q e0)] at hE
  have e1 : (G.2 = 0) = True := eq_true e0
  simp(maxSteps:=9^9)only[↓VX,VQ,seval,e1]
  rw [hE]
 ·rw [if_pos e0] at hE
  have e1 : (G.2 = 0) = False := eq_false e0
  simp(maxSteps:=9^9)only[↓VX,VQ,seval,e1]
  rw [hE]
end Go.Proofs.YtdmejgfcaacdoaaGreat.Abs
