/- Lemmas for the statements of this seat (X25): they hold without conditions beyond those that each one states. -/
import Derived.Test.YtdmejgfcaacdoaaGreatX23
/- Contracts: acts; laws: the marks that make the fewest corrections. -/
namespace Go.Proofs.YtdmejgfcaacdoaaGreat.Abs
set_option linter.unusedSimpArgs false
set_option maxHeartbeats 4000000
set_option maxRecDepth 100000
open Go Go.RowKit Go.Proofs
def actsL : List AV := [.bool true,.bool false,.fn (.func 115) [] [],.bool true,.bool true,.fn (.func 116) [] [],.bool true,.bool false,.fn (.func 117) [] [],.bool false,.bool true,.fn (.func 118) [] []]
theorem acts_c : PCall Tryz.prog 65 [] (.agg actsL) := by
 intro m
 simp only [actsL]
 (refine acall_intro (E := envC (modeAt [0] []) false []) (envCOk _ _ _) rfl Tryz.func65 rfl Tryz.call65 (by kernel_rfl) (by simp [Tryz.ntmps65]) ?_; simp only [Tryz.f65];  simp(maxSteps:=9^9)only[↓VX,VQ,seval,buildV])
theorem acts1_c (a b : ByteArray) : PCall Tryz.prog 115 [.str a,.str b] (strs [a]) := by
 intro m
 simp only [strs,List.map_cons,List.map_nil]
 (refine acall_intro (E := env fun _ => .imm) (envOk _) rfl Tryz.func115 rfl Tryz.call115 (by kernel_rfl) (by simp [Tryz.ntmps115]) ?_; simp only [Tryz.f115];  simp(maxSteps:=9^9)only[↓VX,VQ,seval])
theorem acts3_c (a b : ByteArray) : PCall Tryz.prog 117 [.str a,.str b] (strs []) := by
 intro m
 simp only [strs,List.map_cons,List.map_nil]
 (refine acall_intro (E := env fun _ => .imm) (envOk _) rfl Tryz.func117 rfl Tryz.call117 (by kernel_rfl) (by simp [Tryz.ntmps117]) ?_; simp only [Tryz.f117];  simp(maxSteps:=9^9)only[↓VX,VQ,seval])
theorem acts4_c (a b : ByteArray) : PCall Tryz.prog 118 [.str a,.str b] (strs [b]) := by
 intro m
 simp only [strs,List.map_cons,List.map_nil]
 (refine acall_intro (E := env fun _ => .imm) (envOk _) rfl Tryz.func118 rfl Tryz.call118 (by kernel_rfl) (by simp [Tryz.ntmps118]) ?_; simp only [Tryz.f118];  simp(maxSteps:=9^9)only[↓VX,VQ,seval])
def markA (x : Int × ByteArray) : AV := .agg [.int .i64 x.1,.str x.2]
def marksA (l : List (Int × ByteArray)) : AV := .slice 2 (l.map markA)
structure NextM (f s : List ByteArray) (i k : Nat) (n : Nat) (K : Nat) (i' k' : Nat) (w : ByteArray) : Prop where
 st : stepR f s K i k = ((i',k'),if K = 0 then 0 else 1)
 hi : i' ≤ f.length
 hk : k' ≤ s.length
 hd : i + k < i' + k'
 m : ∀ n',n = n' + 1 → marksOf n (f.drop i) (s.drop k) = ((K : Int),w) :: marksOf n' (f.drop i') (s.drop k')
 w : ((K = 1 ∨ K = 3) ∧ k < s.length ∧ w = s[k]!) ∨ ((K = 0 ∨ K = 2) ∧ w = ByteArray.empty)
theorem step0 {f s : List ByteArray} {i k : Nat} (h1 : i < f.length) (h2 : k < s.length) (h : fitW s[k]! f[i]! = true) : stepR f s 0 i k = ((i + 1,k + 1),0) := by
 unfold stepR; rw [h]; simp only [Int.reduceEq,if_false,if_pos (And.intro h1 h2),decide_true,if_true]
theorem step1 {f s : List ByteArray} {i k : Nat} (h1 : i < f.length) (h2 : k < s.length) (h : fitW s[k]! f[i]! = false) : stepR f s 1 i k = ((i + 1,k + 1),1) := by
 unfold stepR; rw [h]; simp only [Int.reduceEq,if_false,if_pos (And.intro h1 h2),decide_false,if_true]
theorem step2 {f s : List ByteArray} {i k : Nat} (h1 : i < f.length) : stepR f s 2 i k = ((i + 1,k),1) := by
 unfold stepR; simp only [if_true,if_pos h1]
theorem step3 {f s : List ByteArray} {i k : Nat} (h2 : k < s.length) : stepR f s 3 i k = ((i,k + 1),1) := by
 unfold stepR; simp only [Int.reduceEq,if_false,if_true,if_pos h2]
theorem tail_drop {l : List ByteArray} {k : Nat} : (l.drop k).tail = l.drop (k + 1) := by simp
theorem next_mark (f s : List ByteArray) (i k : Nat) (hi : i ≤ f.length) (hk : k ≤ s.length) (hne : ¬ (i = f.length ∧ k = s.length)) (n : Nat) : ∃ i' k' w,NextM f s i k n (kindOf (f.drop i) (s.drop k)) i' k' w := by
 by_cases q1 : i < f.length
 ·by_cases q2 : k < s.length
  ·have e1 := drop_here q1
   have e2 := drop_here q2
   have hkd : kindOf (f.drop i) (s.drop k) = if fitW s[k]! f[i]! = true ∧ dist (f.drop i) (s.drop k) = dist (f.drop (i + 1)) (s.drop (k + 1)) then 0
    else if fitW s[k]! f[i]! = false ∧ dist (f.drop i) (s.drop k) = 1 + dist (f.drop (i + 1)) (s.drop (k + 1)) then 1
    else if dist (f.drop i) (s.drop k) = 1 + dist (f.drop (i + 1)) (s.drop k) then 2 else 3 := by rw [e1,e2]; rfl
   have hmo : ∀ n',marksOf (n' + 1) (f.drop i) (s.drop k) = match kindOf (f.drop i) (s.drop k) with
    | 0 => (0,ByteArray.empty) :: marksOf n' (f.drop i).tail (s.drop k).tail
    | 1 => (1,(s.drop k).headD ByteArray.empty) :: marksOf n' (f.drop i).tail (s.drop k).tail
    | 2 => (2,ByteArray.empty) :: marksOf n' (f.drop i).tail (s.drop k)
    | 3 => (3,(s.drop k).headD ByteArray.empty) :: marksOf n' (f.drop i) (s.drop k).tail
    | _ => [] := fun n' => rfl
   have hh : (s.drop k).headD ByteArray.empty = s[k]! := by rw [e2]; rfl
   rw [hh,tail_drop,tail_drop] at hmo
   by_cases c0 : fitW s[k]! f[i]! = true ∧ dist (f.drop i) (s.drop k) = dist (f.drop (i + 1)) (s.drop (k + 1))
   ·rw [if_pos c0] at hkd
    rw [hkd] at hmo ⊢
    refine ⟨i + 1,k + 1,ByteArray.empty,?_,by omega,by omega,by omega,fun n' e => by rw [e]; exact hmo n',.inr ⟨.inl rfl,rfl⟩⟩
    exact step0 q1 q2 c0.1
   ·rw [if_neg c0] at hkd
    by_cases c1 : fitW s[k]! f[i]! = false ∧ dist (f.drop i) (s.drop k) = 1 + dist (f.drop (i + 1)) (s.drop (k + 1))
    ·rw [if_pos c1] at hkd
     rw [hkd] at hmo ⊢
     exact ⟨i + 1,k + 1,s[k]!,step1 q1 q2 c1.1,by omega,by omega,by omega,fun n' e => by rw [e]; exact hmo n',.inl ⟨.inl rfl,q2,rfl⟩⟩
    ·rw [if_neg c1] at hkd
     by_cases c2 : dist (f.drop i) (s.drop k) = 1 + dist (f.drop (i + 1)) (s.drop k)
     ·rw [if_pos c2] at hkd
      rw [hkd] at hmo ⊢
      exact ⟨i + 1,k,ByteArray.empty,step2 q1,by omega,by omega,by omega,fun n' e => by rw [e]; exact hmo n',.inr ⟨.inr rfl,rfl⟩⟩
     ·rw [if_neg c2] at hkd
      rw [hkd] at hmo ⊢
      exact ⟨i,k + 1,s[k]!,step3 q2,by omega,by omega,by omega,fun n' e => by rw [e]; exact hmo n',.inl ⟨.inr rfl,q2,rfl⟩⟩
  ·have e1 := drop_here q1
   have e2 := drop_end q2
   have hkd : kindOf (f.drop i) (s.drop k) = 2 := by rw [e1,e2]; rfl
   rw [hkd]
   refine ⟨i + 1,k,ByteArray.empty,step2 q1,by omega,by omega,by omega,fun n' e => ?_,.inr ⟨.inr rfl,rfl⟩⟩
   rw [e,e1,e2]; rfl
 ·have q2 : k < s.length := by omega
  have e1 := drop_end q1
  have e2 := drop_here q2
  have hkd : kindOf (f.drop i) (s.drop k) = 3 := by rw [e1,e2]; rfl
  rw [hkd]
  refine ⟨i,k + 1,s[k]!,step3 q2,by omega,by omega,by omega,fun n' e => ?_,.inl ⟨.inr rfl,q2,rfl⟩⟩
  rw [e,e1,e2]; rfl
theorem kind_le (f s : List ByteArray) : kindOf f s ≤ 4 := by
 match f,s with
 | [],[] => exact Nat.le_refl _
 | [],_ :: _ => show 3 ≤ 4; omega
 | _ :: _,[] => show 2 ≤ 4; omega
 | a :: f,b :: s => unfold kindOf; (repeat' split) <;> omega
theorem kind_end (f s : List ByteArray) (i k : Nat) (hi : i ≤ f.length) (hk : k ≤ s.length) (h : kindOf (f.drop i) (s.drop k) = 4) : i = f.length ∧ k = s.length := by
 by_cases q1 : i < f.length
 ·by_cases q2 : k < s.length
  ·rw [drop_here q1,drop_here q2] at h
   have hkd : ∀ (a b : ByteArray) (f s : List ByteArray),kindOf (a :: f) (b :: s) ≤ 3 := fun a b f s => by
    have : kindOf (a :: f) (b :: s) = if fitW b a = true ∧ dist (a :: f) (b :: s) = dist f s then 0 else if fitW b a = false ∧ dist (a :: f) (b :: s) = 1 + dist f s then 1 else if dist (a :: f) (b :: s) = 1 + dist f (b :: s) then 2 else 3 := rfl
    rw [this]
    repeat' split
    all_goals omega
   have := hkd f[i]! s[k]! (f.drop (i + 1)) (s.drop (k + 1))
   omega
  ·rw [drop_here q1,drop_end q2] at h
   have h : 2 = 4 := h
   omega
 ·by_cases q2 : k < s.length
  ·rw [drop_end q1,drop_here q2] at h
   have h : 3 = 4 := h
   omega
  ·omega
theorem marks_end (n : Nat) : marksOf n [] [] = [] := by cases n <;> rfl
structure FewJ (f s : List ByteArray) (b : Nat) (m : Mem) (i k : Nat) (L : List (Int × ByteArray)) (m1 : Mem) : Prop where
 hi : i ≤ f.length
 hk : k ≤ s.length
 hL : ∃ n,(f.length - i) + (s.length - k) ≤ n ∧ L ++ marksOf n (f.drop i) (s.drop k) = marksOf (f.length + s.length) f s
 len : L.length ≤ i + k
 mem : ∃ L',m1 b = some (.map (knownP f s L'))
 sub : ∀ j y,m j = some y → m1 j = some y
theorem fewest_c (f s : List ByteArray) (hf : sizesFit f) (hs : sizesFit s) : PCall Tryz.prog 16 [strs f,strs s] (.tuple [marksA (fewestR f s).1,.int .i64 (fewestR f s).2.1,.int .i64 (fewestR f s).2.2]) := by
 intro m
 have h1 := lettered_c f hf
 have h2 := lettered_c s hs
 have hls := fun m => listen_c f s m
 obtain ⟨E,hE⟩ : ∃ E,E = fewestR f s := ⟨_,rfl⟩
 rw [← hE]
 unfold fewestR at hE
 have hfl := letE_len (l := f)
 have hsl := letE_len (l := s)
 have hlf := fun (q1 : letE f = 0) (q2 : letE s = 0) b i k hi hk L m hm => left_c f s (by have := (hfl q1).1; omega) (by have := (hsl q2).1; omega) b i k hi hk (corr_all f s (by have := (hfl q1).1; omega) (by have := (hsl q2).1; omega) b (f.length + s.length + 1) _ (by omega)) L m hm
 have hco := fun (q1 : letE f = 0) (q2 : letE s = 0) b L m hm => corr_c f s (by have := (hfl q1).1; omega) (by have := (hsl q2).1; omega) b 0 0 (Nat.zero_le _) (Nat.zero_le _) L m hm
 have hst := fun (q1 : letE f = 0) (q2 : letE s = 0) b i k (K : Nat) (hK : K ≤ 3) hi hk => step_c f s b i k (K : Int) (by omega) (by omega) hi hk (by have := (hfl q1).1; omega) (by have := (hsl q2).1; omega)
 have hac := acts_c
 obtain ⟨e1,he1⟩ : ∃ e,e = letE f := ⟨_,rfl⟩
 obtain ⟨e2,he2⟩ : ∃ e,e = letE s := ⟨_,rfl⟩
 rw [← he1] at h1 hE hfl hlf hco hst
 rw [← he2] at h2 hE hsl hlf hco hst
 simp only [strs,marksA,readerL,placeA,Int.natCast_zero,actsL,stepA] at h1 h2 hls hlf hco hst hac ⊢
 refine ACall.forget ?_
 (refine acall_intro (E := envC (modeAt [10,13] []) false []) (envCOk _ _ _) rfl Tryz.func16 rfl Tryz.call16 (by kernel_rfl) (by simp [Tryz.ntmps16]) ?_; simp only [Tryz.f16];  simp(maxSteps:=9^9)only[↓VX,VQ,seval])
 refine aloop (envCOk _ _ _) (fun k : Nat => ⟨[(0,.v (.slice 1 (f.map AV.str))),(1,.v (.slice 1 (s.map AV.str))),(4,.v (.slice 2 [])),(16,.v (.slice 1 [.slice 1 (f.map AV.str),.slice 1 (s.map AV.str)])),(17,.v (.int .i64 2)),(18,.v (.int .i64 k))],[4],[],m⟩)
  (fun k => k = 0 ∨ (k = 1 ∧ e1 = 0) ∨ (k = 2 ∧ e1 = 0 ∧ e2 = 0)) (fun k => 2 - k) 0 (fun _ => rfl) (.inl rfl) (by (simp only [FE,↓FP,seval]); exact ⟨rfl,rfl⟩) ?_
 rintro k (rfl | ⟨rfl,q1⟩ | ⟨rfl,q1,q2⟩)
 ·simp(maxSteps:=9^9)only[↓VX,VQ,seval]
  refine ⟨_,rfl,by decide,?_⟩
  simp(maxSteps:=9^9)only[↓VX,VQ,seval]
  (refine ACall.pure (h1) ?_; try simp(maxSteps:=9^9)only[↓VX,VQ,seval])
  by_cases q1 : e1 = 0
  ·rw [if_neg (fun q => q q1)] at hE
   subst q1
   simp(maxSteps:=9^9)only[↓VX,VQ,seval]
   refine ⟨1,.inr (.inl rfl),by decide,?_⟩
   (simp only [FE,↓FP,seval])
  ·rw [if_pos q1] at hE
   have x1 : (e1 = 0) = False := eq_false q1
   simp(maxSteps:=9^9)only[↓VX,VQ,seval,x1]
   refine ⟨m,fun _ _ h => h,?_⟩
   rw [hE]
   exact ⟨rfl,rfl⟩
 ·rw [if_neg (fun q => q q1)] at hE
  simp(maxSteps:=9^9)only[↓VX,VQ,seval]
  refine ⟨_,rfl,by decide,?_⟩
  simp(maxSteps:=9^9)only[↓VX,VQ,seval]
  (refine ACall.pure (h2) ?_; try simp(maxSteps:=9^9)only[↓VX,VQ,seval])
  by_cases q2 : e2 = 0
  ·rw [if_neg (fun q => q q2)] at hE
   subst q2
   simp(maxSteps:=9^9)only[↓VX,VQ,seval]
   refine ⟨2,.inr (.inr ⟨rfl,q1⟩),by decide,?_⟩
   (simp only [FE,↓FP,seval])
  ·rw [if_pos q2] at hE
   have x2 : (e2 = 0) = False := eq_false q2
   simp(maxSteps:=9^9)only[↓VX,VQ,seval,x2]
   refine ⟨m,fun _ _ h => h,?_⟩
   rw [hE]
   exact ⟨rfl,rfl⟩
 ·rw [if_neg (fun q => q q1),if_neg (fun q => q q2)] at hE
  have hlf := hlf q1 q2
  have hco := hco q1 q2
  have hst := hst q1 q2
  have f15 := (hfl q1).1
  have s15 := (hsl q2).1
  simp(maxSteps:=9^9)only[↓VX,VQ,seval]
  refine ACall.told (hls m) ?_
  rintro r m0 ⟨b,hb,rfl,rfl⟩
  simp(maxSteps:=9^9)only[↓VX,VQ,seval]
  refine aloop (envCOk _ _ _) (fun q : Nat × Nat × List (Int × ByteArray) × Mem => ⟨[(1,.v (.slice 1 (s.map AV.str))),(4,.v (.slice 2 (q.2.2.1.map markA))),(9,.v (.eptr [.slice 1 (f.map AV.str),.slice 1 (s.map AV.str),.map b])),(10,.loc 10 0)],[4],[(10,[.int .i64 q.1,.int .i64 q.2.1])],q.2.2.2⟩)
   (fun q => FewJ f s b m q.1 q.2.1 q.2.2.1 q.2.2.2) (fun q => (f.length - q.1) + (s.length - q.2.1)) (0,0,[],upd m b (some (.map []))) (fun _ => rfl) ⟨Nat.zero_le _,Nat.zero_le _,⟨f.length + s.length,by dsimp only; omega,by simp⟩,by simp,⟨[],upd_same _ _ _⟩,fun j y hy => by dsimp only; rw [upd_ne _ _ (ne_none hy hb)]; exact hy⟩ (by (simp only [FE,↓FP,seval]); try simp) ?_
  rintro ⟨i,k,L,m1⟩ ⟨hi,hk,⟨n,hn,hL⟩,hlen,⟨L',hL'⟩,hsub⟩
  dsimp only at hi hk hn hL hlen hL' hsub
  have hlf := hlf b i k hi hk L' m1 hL'
  have hkl := kind_le (f.drop i) (s.drop k)
  have hke := kind_end f s i k hi hk
  have hnm := next_mark f s i k hi hk
  have hkn : (i = f.length ∧ k = s.length) → kindOf (f.drop i) (s.drop k) = 4 := fun e => (left_end f s e.1 e.2).1
  simp(maxSteps:=9^9)only[↓VX,VQ,seval]
  refine ACall.told hlf ?_
  rintro r m2 ⟨rfl,⟨⟨L2,_,hm2⟩,hs2⟩⟩
  have hco := hco b L2 m2 hm2
  generalize kindOf (f.drop i) (s.drop k) = K at *
  by_cases hK : K = 4
  ·subst hK
   obtain ⟨rfl,rfl⟩ := hke rfl
   simp(maxSteps:=9^9)only[↓VX,VQ,seval,Int.reduceEq]
   refine ACall.told hco ?_
   rintro r m3 ⟨rfl,_,hs3⟩
   simp(maxSteps:=9^9)only[↓VX,VQ,seval]
   have hl : L = marksOf (f.length + s.length) f s := by
    rw [List.drop_length,List.drop_length,marks_end,List.append_nil] at hL
    exact hL
   refine ⟨m,fun j y hy => ?_,?_⟩
   ·have nj : j ≠ b := ne_none hy hb
    exact hs3 j y nj (hs2 j y nj (hsub j y hy))
   ·rw [hE,hl]
    exact ⟨rfl,rfl⟩
  ·have hKi : ((K : Int) = 4) = False := by simp; omega
   have hne : ¬ (i = f.length ∧ k = s.length) := fun e => hK (hkn e)
   obtain ⟨i',k',w,hN⟩ := hnm hne n
   have hst := hst b i k K (by omega) hi hk
   rw [hN.st] at hst
   have hNm := hN.m (n - 1) (by omega)
   rw [hNm] at hL
   have hd := hN.hd
   have hJ2 : FewJ f s b m i' k' (L ++ [((K : Int),w)]) m2 := ⟨hN.hi,hN.hk,⟨n - 1,by have := hN.hi; have := hN.hk; omega,by rw [List.append_assoc]; exact hL⟩,by rw [List.length_append]; simp; omega,⟨L2,hm2⟩,fun j y hy => hs2 j y (ne_none hy hb) (hsub j y hy)⟩
   have hK4 : K = 0 ∨ K = 1 ∨ K = 2 ∨ K = 3 := by omega
   have hw := hN.w
   have hi2 := hN.hi
   have hk2 := hN.hk
   rcases hK4 with rfl | rfl | rfl | rfl
   all_goals
    simp(maxSteps:=9^9)only[↓VX,VQ,seval,hKi,buildV]
    refine ACall.pure hac ?_
    simp(maxSteps:=9^9)only[↓VX,VQ,seval]
   ·obtain rfl : w = ByteArray.empty := by
     rcases hw with ⟨h,_⟩ | ⟨_,h⟩
     ·omega
     ·exact h
    refine ⟨by omega,?_⟩
    refine ACall.pure hst ?_
    simp(maxSteps:=9^9)only[↓VX,VQ,seval]
    refine ⟨(i',k',_,m2),hJ2,by dsimp only; omega,?_⟩
    (simp only [FE,↓FP,seval])
    simp [markA]
   ·obtain ⟨h2,rfl⟩ : k < s.length ∧ w = s[k]! := by
     rcases hw with ⟨_,h,h'⟩ | ⟨h,_⟩
     ·exact ⟨h,h'⟩
     ·omega
    refine ⟨⟨by omega,h2⟩,by omega,?_⟩
    refine ACall.pure hst ?_
    simp(maxSteps:=9^9)only[↓VX,VQ,seval]
    refine ⟨(i',k',_,m2),hJ2,by dsimp only; omega,?_⟩
    (simp only [FE,↓FP,seval])
    simp [markA]
   ·obtain rfl : w = ByteArray.empty := by
     rcases hw with ⟨h,_⟩ | ⟨_,h⟩
     ·omega
     ·exact h
    refine ⟨by omega,?_⟩
    refine ACall.pure hst ?_
    simp(maxSteps:=9^9)only[↓VX,VQ,seval]
    refine ⟨(i',k',_,m2),hJ2,by dsimp only; omega,?_⟩
    (simp only [FE,↓FP,seval])
    simp [markA]
   ·obtain ⟨h2,rfl⟩ : k < s.length ∧ w = s[k]! := by
     rcases hw with ⟨_,h,h'⟩ | ⟨h,_⟩
     ·exact ⟨h,h'⟩
     ·omega
    refine ⟨⟨by omega,h2⟩,by omega,?_⟩
    refine ACall.pure hst ?_
    simp(maxSteps:=9^9)only[↓VX,VQ,seval]
    refine ⟨(i',k',_,m2),hJ2,by dsimp only; omega,?_⟩
    (simp only [FE,↓FP,seval])
    simp [markA]
end Go.Proofs.YtdmejgfcaacdoaaGreat.Abs
