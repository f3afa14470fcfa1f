/- Lemmas for the statements of this seat (X26): they hold without conditions beyond those that each one states. -/
import Derived.Test.YtdmejgfcaacdoaaGreatX24
import Derived.Test.YtdmejgfcaacdoaaGreatX25
/- Contracts: the reference's Same,Sames,Equal; words that are given; the reference's Check. -/
namespace Go.Proofs.YtdmejgfcaacdoaaGreat.Abs
set_option linter.unusedSimpArgs false
set_option maxHeartbeats 4000000
set_option maxRecDepth 100000
open Go Go.RowKit Go.Proofs
theorem list_ne_at {α : Type} [Inhabited α] {a b : List α} {k : Nat} (h : a[k]! ≠ b[k]!) : a ≠ b := fun e => h (by rw [e])
theorem list_eq_at {α : Type} [Inhabited α] {a b : List α} (hl : a.length = b.length) (h : ∀ k,k < a.length → a[k]! = b[k]!) : a = b := by
 refine List.ext_getElem hl fun i h1 h2 => ?_
 have := h i h1
 rwa [getElem!_pos a i h1,getElem!_pos b i h2] at this
theorem same_c (a b : List ByteArray) : PCall Tryz.prog 27 [strs a,strs b] (.bool (decide (a = b))) := by
 intro m
 simp only [strs]
 (refine acall_intro (E := env fun _ => .imm) (envOk _) rfl Tryz.func27 rfl Tryz.call27 (by kernel_rfl) (by simp [Tryz.ntmps27]) ?_; simp only [Tryz.f27];  simp(maxSteps:=9^9)only[↓VX,VQ,seval])
 repeat'(first|intro _|apply And.intro)
 all_goals try first|omega|(simp only[LL];omega)|exact nlC (by decide) _|exact nbC rfl
 ·rw [decide_eq_false (fun e => by rename_i q; rw [e] at q; exact q rfl)]
 have hl : a.length = b.length := by omega
 refine aloop (envOk _) (fun k : Nat => ⟨[(0,.v (.slice 1 (a.map AV.str))),(1,.v (.slice 1 (b.map AV.str))),(5,.v (.int .i64 k))],[],[],m⟩) (fun k => k ≤ a.length ∧ ∀ j,j < k → a[j]! = b[j]!) (fun k => a.length - k) 0 (fun _ => rfl) ⟨Nat.zero_le _,fun j hj => absurd hj (Nat.not_lt_zero _)⟩ (by (simp only [FE,↓FP,seval]); try simp) ?_
 rintro k ⟨hk,hp⟩
 by_cases hlt : k < a.length
 ·have hk' : ((k : Int) < (a.length : Int)) = True := by simp; omega
  by_cases he : a[k]! = b[k]!
  ·simp(maxSteps:=9^9)only[↓VX,VQ,seval,hk']
   repeat'(first|intro _|apply And.intro)
   all_goals try first|omega|(simp only[LL];omega)|exact nlC (by decide) _|exact nbC rfl
   (refine adraw (by first | exact envOk _ | exact envCOk _ _ _) mixed [⟨false,false,0⟩,⟨false,false,0⟩,⟨false,false,0⟩,⟨false,false,0⟩,⟨false,false,0⟩,⟨false,false,0⟩,⟨false,false,0⟩,⟨false,false,0⟩,⟨false,false,0⟩] (by kernel_rfl) ?_; show vcOpsD _ _ _ (_ :: _) _ _)
   simp(maxSteps:=9^9)only[↓VX,VQ,seval,he]
   repeat'(first|intro _|apply And.intro)
   all_goals try first|omega|(simp only[LL];omega)|exact nlC (by decide) _|exact nbC rfl
   refine ⟨k + 1,⟨by omega,fun j hj => ?_⟩,by dsimp only; omega,?_⟩
   ·by_cases e : j = k
    ·rw [e]; exact he
    ·exact hp j (by omega)
   ·(simp only [FE,↓FP,seval])
    simp
  ·have he' : (a[k]! = b[k]!) = False := eq_false he
   simp(maxSteps:=9^9)only[↓VX,VQ,seval,hk']
   repeat'(first|intro _|apply And.intro)
   all_goals try first|omega|(simp only[LL];omega)|exact nlC (by decide) _|exact nbC rfl
   (refine adraw (by first | exact envOk _ | exact envCOk _ _ _) mixed [⟨false,false,0⟩,⟨false,false,0⟩,⟨false,false,0⟩,⟨false,false,0⟩,⟨false,false,0⟩,⟨false,false,0⟩,⟨false,false,0⟩,⟨false,false,0⟩,⟨false,false,0⟩] (by kernel_rfl) ?_; show vcOpsD _ _ _ (_ :: _) _ _)
   simp(maxSteps:=9^9)only[↓VX,VQ,seval,he']
   repeat'(first|intro _|apply And.intro)
   all_goals try first|omega|(simp only[LL];omega)|exact nlC (by decide) _|exact nbC rfl
   rw [decide_eq_false (list_ne_at he)]
 ·simp(maxSteps:=9^9)only[↓VX,VQ,seval]
  repeat'(first|intro _|apply And.intro)
  all_goals try first|omega|(simp only[LL];omega)|exact nlC (by decide) _|exact nbC rfl
  rw [decide_eq_true (list_eq_at hl fun j hj => hp j (by omega))]
theorem sames_c (a b : List (List ByteArray)) : PCall Tryz.prog 38 [rowsW a,rowsW b] (.bool (decide (a = b))) := by
 intro m
 have hs := same_c
 simp only [rowsW,strs] at hs ⊢
 (refine acall_intro (E := env fun _ => .imm) (envOk _) rfl Tryz.func38 rfl Tryz.call38 (by kernel_rfl) (by simp [Tryz.ntmps38]) ?_; simp only [Tryz.f38];  simp(maxSteps:=9^9)only[↓VX,VQ,seval])
 repeat'(first|intro _|apply And.intro)
 all_goals try first|omega|(simp only[LL];omega)|exact nlC (by decide) _|exact nbC rfl
 ·rw [decide_eq_false (fun e => by rename_i q; rw [e] at q; exact q rfl)]
 have hl : a.length = b.length := by omega
 refine aloop (envOk _) (fun k : Nat => ⟨[(0,.v (.slice 1 (a.map strs))),(1,.v (.slice 1 (b.map strs))),(5,.v (.int .i64 k))],[],[],m⟩) (fun k => k ≤ a.length ∧ ∀ j,j < k → a[j]! = b[j]!) (fun k => a.length - k) 0 (fun _ => rfl) ⟨Nat.zero_le _,fun j hj => absurd hj (Nat.not_lt_zero _)⟩ (by (simp only [FE,↓FP,seval]); try simp [strs]) ?_
 rintro k ⟨hk,hp⟩
 by_cases hlt : k < a.length
 ·have hk' : ((k : Int) < (a.length : Int)) = True := by simp; omega
  have hs := hs a[k]! b[k]!
  by_cases he : a[k]! = b[k]!
  ·rw [decide_eq_true he] at hs
   simp(maxSteps:=9^9)only[↓VX,VQ,seval,hk',strs]
   repeat'(first|intro _|apply And.intro)
   all_goals try first|omega|(simp only[LL];omega)|exact nlC (by decide) _|exact nbC rfl
   (refine adraw (by first | exact envOk _ | exact envCOk _ _ _) mixed [⟨false,false,0⟩,⟨false,false,0⟩,⟨false,false,0⟩,⟨false,false,0⟩,⟨false,false,0⟩,⟨false,false,0⟩,⟨false,false,0⟩,⟨false,false,0⟩,⟨false,false,0⟩,⟨false,false,0⟩] (by kernel_rfl) ?_; show vcOpsD _ _ _ (_ :: _) _ _)
   simp(maxSteps:=9^9)only[↓VX,VQ,seval,strs]
   repeat'(first|intro _|apply And.intro)
   all_goals try first|omega|(simp only[LL];omega)|exact nlC (by decide) _|exact nbC rfl
   (refine ⟨_,.inl (hs),?_⟩; try simp(maxSteps:=9^9)only[↓VX,VQ,seval])
   repeat'(first|intro _|apply And.intro)
   all_goals try first|omega|(simp only[LL];omega)|exact nlC (by decide) _|exact nbC rfl
   refine ⟨k + 1,⟨by omega,fun j hj => ?_⟩,by dsimp only; omega,?_⟩
   ·by_cases e : j = k
    ·rw [e]; exact he
    ·exact hp j (by omega)
   ·(simp only [FE,↓FP,seval])
    simp
  ·rw [decide_eq_false he] at hs
   simp(maxSteps:=9^9)only[↓VX,VQ,seval,hk',strs]
   repeat'(first|intro _|apply And.intro)
   all_goals try first|omega|(simp only[LL];omega)|exact nlC (by decide) _|exact nbC rfl
   (refine adraw (by first | exact envOk _ | exact envCOk _ _ _) mixed [⟨false,false,0⟩,⟨false,false,0⟩,⟨false,false,0⟩,⟨false,false,0⟩,⟨false,false,0⟩,⟨false,false,0⟩,⟨false,false,0⟩,⟨false,false,0⟩,⟨false,false,0⟩,⟨false,false,0⟩] (by kernel_rfl) ?_; show vcOpsD _ _ _ (_ :: _) _ _)
   simp(maxSteps:=9^9)only[↓VX,VQ,seval,strs]
   repeat'(first|intro _|apply And.intro)
   all_goals try first|omega|(simp only[LL];omega)|exact nlC (by decide) _|exact nbC rfl
   (refine ⟨_,.inl (hs),?_⟩; try simp(maxSteps:=9^9)only[↓VX,VQ,seval])
   repeat'(first|intro _|apply And.intro)
   all_goals try first|omega|(simp only[LL];omega)|exact nlC (by decide) _|exact nbC rfl
   rw [decide_eq_false (list_ne_at he)]
 ·simp(maxSteps:=9^9)only[↓VX,VQ,seval,strs]
  repeat'(first|intro _|apply And.intro)
  all_goals try first|omega|(simp only[LL];omega)|exact nlC (by decide) _|exact nbC rfl
  rw [decide_eq_true (list_eq_at hl fun j hj => hp j (by omega))]
def splitStep (s : ByteArray) (c : Nat) (x : List ByteArray × Nat) (i : Nat) : List ByteArray × Nat := if byteAt s i = c then (x.1 ++ [s.extract x.2 i],i + 1) else x
def splitTo (s : ByteArray) (c k : Nat) : List ByteArray × Nat := (List.range k).foldl (splitStep s c) ([],0)
def splitR (s : ByteArray) (c : Nat) : List ByteArray := (splitTo s c s.size).1 ++ [s.extract (splitTo s c s.size).2 s.size]
theorem splitTo_succ (s : ByteArray) (c k : Nat) : splitTo s c (k + 1) = splitStep s c (splitTo s c k) k := by
 unfold splitTo; rw [List.range_succ,List.foldl_append]; rfl
theorem splitTo_le (s : ByteArray) (c : Nat) : ∀ k,(splitTo s c k).2 ≤ k ∧ (splitTo s c k).1.length ≤ k
 | 0 => ⟨Nat.le_refl _,Nat.le_refl _⟩
 | k + 1 => by
  obtain ⟨h1,h2⟩ := splitTo_le s c k
  rw [splitTo_succ]
  unfold splitStep
  split
  ·exact ⟨Nat.le_refl _,by rw [List.length_append]; simp; omega⟩
  ·omega
theorem split_c (s : ByteArray) (c : Nat) (_hc : c < 256) (hs : s.size ≤ 1000000) : PCall Tryz.prog 93 [.str s,.int .u8 c] (strs (splitR s c)) := by
 intro m
 unfold splitR
 simp only [strs]
 (refine acall_intro (E := env fun _ => .imm) (envOk _) rfl Tryz.func93 rfl Tryz.call93 (by kernel_rfl) (by simp [Tryz.ntmps93]) ?_; simp only [Tryz.f93];  simp(maxSteps:=9^9)only[↓VX,VQ,seval])
 refine aloop (envOk _) (fun k : Nat => ⟨[(0,.v (.str s)),(1,.v (.int .u8 c)),(5,.v (.slice 1 ((splitTo s c k).1.map AV.str))),(6,.v (.int .i64 (splitTo s c k).2)),(7,.v (.int .i64 k))],[5],[],m⟩) (fun k => k ≤ s.size) (fun k => s.size - k) 0 (fun _ => rfl) (Nat.zero_le _) (by (simp only [FE,↓FP,seval]); try simp [splitTo]) ?_
 intro k hk
 obtain ⟨h1,h2⟩ := splitTo_le s c k
 have hsn := splitTo_succ s c k
 unfold splitStep at hsn
 by_cases hlt : k < s.size
 ·have hk' : ((k : Int) < (s.size : Int)) = True := by simp; omega
  generalize splitTo s c k = X at *
  obtain ⟨out,b⟩ := X
  dsimp only at h1 h2 hsn
  simp(maxSteps:=9^9)only[↓VX,VQ,seval,hk',byte_fold]
  repeat'(first|intro _|apply And.intro)
  all_goals try first|omega|(simp only[LL];omega)|exact nlC (by decide) _|exact nbC rfl
  ·have q : byteAt s k = c := by omega
   rw [if_pos q] at hsn
   refine ⟨k + 1,by omega,by dsimp only; omega,?_⟩
   (simp only [FE,↓FP,seval])
   rw [hsn]
   simp
  ·have q : ¬ byteAt s k = c := by omega
   rw [if_neg q] at hsn
   refine ⟨k + 1,by omega,by dsimp only; omega,?_⟩
   (simp only [FE,↓FP,seval])
   rw [hsn]
   simp
 ·have hke : k = s.size := by omega
  subst hke
  simp(maxSteps:=9^9)only[↓VX,VQ,seval]
  repeat'(first|intro _|apply And.intro)
  all_goals try first|omega|(simp only[LL];omega)|exact nlC (by decide) _|exact nbC rfl
  all_goals (rw [List.map_append]; rfl)
theorem words_c (s : ByteArray) (hs : s.size ≤ 1000000) : PCall Tryz.prog 32 [.str s] (strs (splitR s 32)) := by
 intro m
 have h := split_c s 32 (by decide) hs
 simp only [strs] at h ⊢
 (refine acall_intro (E := env fun _ => .imm) (envOk _) rfl Tryz.func32 rfl Tryz.call32 (by kernel_rfl) (by simp [Tryz.ntmps32]) ?_; simp only [Tryz.f32];  simp(maxSteps:=9^9)only[↓VX,VQ,seval])
 (refine ACall.pure (h) ?_; try simp(maxSteps:=9^9)only[↓VX,VQ,seval])
theorem lawspan_c (a b : Int) : PCall Tryz.prog 133 [.int .i64 a,.int .i64 b] (.agg [.int .i64 a,.int .i64 b]) := by
 intro m
 (refine acall_intro (E := envC (modeAt [2,3,4] []) false []) (envCOk _ _ _) rfl Tryz.func133 rfl Tryz.call133 (by kernel_rfl) (by simp [Tryz.ntmps133]) ?_; simp only [Tryz.f133];  simp(maxSteps:=9^9)only[↓VX,VQ,seval,buildV])
theorem room_c (a b : Int) : PCall Tryz.prog 82 [.int .i64 a,.int .i64 b] (partA ⟨[],a,b⟩) := by
 intro m
 have h := lawspan_c a b
 simp only [partA,strs,List.map_nil]
 (refine acall_intro (E := envC (modeAt [4] []) false []) (envCOk _ _ _) rfl Tryz.func82 rfl Tryz.call82 (by kernel_rfl) (by simp [Tryz.ntmps82]) ?_; simp only [Tryz.f82];  simp(maxSteps:=9^9)only[↓VX,VQ,seval,buildV])
 (refine ACall.pure (h) ?_; try simp(maxSteps:=9^9)only[↓VX,VQ,seval])
 simp(maxSteps:=9^9)only[↓VX,VQ,seval,buildV]
theorem lawgiven_c (s : ByteArray) (hs : s.size ≤ 1000000) : PCall Tryz.prog 81 [.str s] (partA ⟨splitR s 32,0,0⟩) := by
 intro m
 have h := words_c s hs
 simp only [partA,strs] at h ⊢
 (refine acall_intro (E := envC (modeAt [2] []) false []) (envCOk _ _ _) rfl Tryz.func81 rfl Tryz.call81 (by kernel_rfl) (by simp [Tryz.ntmps81]) ?_; simp only [Tryz.f81];  simp(maxSteps:=9^9)only[↓VX,VQ,seval,buildV])
 (refine ACall.pure (h) ?_; try simp(maxSteps:=9^9)only[↓VX,VQ,seval])
 simp(maxSteps:=9^9)only[↓VX,VQ,seval,buildV]
theorem splitThe : splitR ⟨#[116,111,32,116,104,101]⟩ 32 = [wTo,wThe] := by decide +kernel
theorem splitAsk : splitR ⟨#[105,32,97,115,107]⟩ 32 = [wI,wAsk] := by decide +kernel
theorem splitX : splitR ⟨#[116,111,32,116,104,101,32,106,117,100,103,101,32,105,32,97,115,107,32,109,101,114,99,121]⟩ 32 = letX := by decide +kernel
theorem splitY : splitR ⟨#[116,111,32,106,117,100,103,101,32,105,32,97,115,107,32,102,111,114,32,109,101,114,99,121]⟩ 32 = letY := by decide +kernel
theorem splitJudge : splitR ⟨#[106,117,100,103,101]⟩ 32 = [wJudge] := by decide +kernel
theorem splitMercy : splitR ⟨#[109,101,114,99,121]⟩ 32 = [wMercy] := by decide +kernel
theorem splitABC : splitR ⟨#[97,32,98,32,99]⟩ 32 = letABC := by decide +kernel
theorem splitA : splitR ⟨#[97]⟩ 32 = [⟨#[97]⟩] := by decide +kernel
theorem splitBC : splitR ⟨#[98,32,99]⟩ 32 = [⟨#[98]⟩,⟨#[99]⟩] := by decide +kernel
theorem shelfX_c : PCall Tryz.prog 20 [] (shelfA shelfX) := by
 intro m
 have g1 := lawgiven_c ⟨#[116,111,32,116,104,101]⟩ (by decide)
 have g2 := lawgiven_c ⟨#[105,32,97,115,107]⟩ (by decide)
 rw [splitThe] at g1
 rw [splitAsk] at g2
 have r1 := room_c 1 2
 have r2 := room_c 1 3
 have r3 := room_c 0 2
 simp only [shelfA,shelfL,formA_eq,partA,strs,shelfX,List.map_cons,List.map_nil] at *
 (refine acall_intro (E := envC (modeAt [0] []) false []) (envCOk _ _ _) rfl Tryz.func20 rfl Tryz.call20 (by kernel_rfl) (by simp [Tryz.ntmps20]) ?_; simp only [Tryz.f20];  simp(maxSteps:=9^9)only[↓VX,VQ,seval,buildV])
 (refine ACall.pure (g1) ?_; try simp(maxSteps:=9^9)only[↓VX,VQ,seval])
 (refine ACall.pure (r1) ?_; try simp(maxSteps:=9^9)only[↓VX,VQ,seval])
 (refine ACall.pure (g2) ?_; try simp(maxSteps:=9^9)only[↓VX,VQ,seval])
 (refine ACall.pure (r2) ?_; try simp(maxSteps:=9^9)only[↓VX,VQ,seval])
 simp(maxSteps:=9^9)only[↓VX,VQ,seval,buildV]
 (refine ACall.pure (r1) ?_; try simp(maxSteps:=9^9)only[↓VX,VQ,seval])
 (refine ACall.pure (g2) ?_; try simp(maxSteps:=9^9)only[↓VX,VQ,seval])
 (refine ACall.pure (r3) ?_; try simp(maxSteps:=9^9)only[↓VX,VQ,seval])
 simp(maxSteps:=9^9)only[↓VX,VQ,seval,buildV]
 (refine ACall.pure (r1) ?_; try simp(maxSteps:=9^9)only[↓VX,VQ,seval])
 (refine ACall.pure (r1) ?_; try simp(maxSteps:=9^9)only[↓VX,VQ,seval])
 simp(maxSteps:=9^9)only[↓VX,VQ,seval,buildV]
 rfl
theorem marksX_c : PCall Tryz.prog 35 [] (marksA marksX) := by
 intro m
 simp only [marksA,marksX,markA,List.map_cons,List.map_nil]
 (refine acall_intro (E := envC (modeAt [] []) false []) (envCOk _ _ _) rfl Tryz.func35 rfl Tryz.call35 (by kernel_rfl) (by simp [Tryz.ntmps35]) ?_; simp only [Tryz.f35];  simp(maxSteps:=9^9)only[↓VX,VQ,seval,buildV])
 rfl
end Go.Proofs.YtdmejgfcaacdoaaGreat.Abs
