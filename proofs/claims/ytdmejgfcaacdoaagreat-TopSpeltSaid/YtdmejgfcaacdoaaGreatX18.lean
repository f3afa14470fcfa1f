/- Lemmas for the statements of this seat (X18): they hold without conditions beyond those that each one states. -/
import Derived.Test.YtdmejgfcaacdoaaGreatX16
import Derived.Test.YtdmejgfcaacdoaaGreatX17
import Derived.Test.YtdmejgfcaacdoaaGreatX13
/- Contracts: all numbers of words that rooms can have. -/
namespace Go.Proofs.YtdmejgfcaacdoaaGreat.Abs
set_option linter.unusedSimpArgs false
set_option maxHeartbeats 4000000
set_option maxRecDepth 100000
open Go Go.RowKit Go.Proofs
def manyI (x : List Nat) : List Int := x.map (fun n : Nat => (n : Int)) ++ List.replicate (5 - x.length) 0
def manyA (x : List Nat) : AV := .agg ((manyI x).map (AV.int .i64))
structure COk (l : Nat) (m0 : Mem) (S : Nat → Prop) (J : List (List Nat) → Mem → Prop) (F : Mem → Prop) : Prop where
 y : ∀ x rest m,J (x :: rest) m → AYield Tryz.prog l [manyA x] m fun r m' => Keeps S m m' ∧ ((r = .bool true ∧ J rest m') ∨ (r = .bool false ∧ F m'))
 st : ∀ rest m b x,¬ S b → m0 b = none → J rest m → J rest (upd m b x)
def seenF (nm : ByteArray) (P : AV) (rs : List (Int × Int)) : List AV := [.str nm,P,.slice 2 (rs.map spanR)]
def capsN (nm : ByteArray) (P : AV) (rs : List (Int × Int)) (l a c : Nat) : List AV := [.eptr [.eptr (seenF nm P rs)],.eptr [.fn (.yield l) [] []],.ptr a 0,.ptr c 0]
theorem map_flatMap_pre (pre : List Nat) (ns : List Nat) (l : List (List Nat)) : (ns.flatMap fun n => l.map (n :: ·)).map (pre ++ ·) = ns.flatMap fun n => l.map ((pre ++ [n]) ++ ·) := by
 rw [List.map_flatMap]
 congr 1
 funext n
 rw [List.map_map]
 congr 1
 funext x
 simp
theorem upN_range {lo hi : Int} (h0 : 0 ≤ lo) (h1 : lo ≤ hi) : upN lo hi = List.range' lo.toNat (hi.toNat + 1 - lo.toNat) := by
 unfold upN
 rw [List.range'_eq_map_range,show (hi - lo + 1).toNat = hi.toNat + 1 - lo.toNat by omega]
theorem cnext_c (nm : ByteArray) (P : AV) (rs : List (Int × Int)) (hr : ∀ r ∈ rs,0 ≤ r.1 ∧ r.1 ≤ r.2 ∧ r.2 ≤ 1000) (hl : rs.length ≤ 5) {l : Nat} {m0 : Mem} {S : Nat → Prop} {J : List (List Nat) → Mem → Prop} {F : Mem → Prop} (hy : COk l m0 S J F)
  (a c : Nat) (h0a : m0 a = none) (ha : ¬ S a) (hc : ¬ S c) (hac : a ≠ c) : ∀ (d room : Nat) (pre : List Nat) (A : List Int) (rest : List (List Nat)) (m : Mem),room + d = rs.length → pre.length = room → A.length = 5 →
   A.take room = pre.map (fun n : Nat => (n : Int)) → A.drop rs.length = List.replicate (5 - rs.length) 0 → m a = some (.cells (A.map (AV.int .i64))) →
   m c = some (.cells [.fn (.func 151) [] (capsN nm P rs l a c)]) → J ((countsOf (rs.drop room)).map (pre ++ ·) ++ rest) m →
   ACall Tryz.prog 151 ([.int .i64 room] ++ capsN nm P rs l a c) m fun r m' => Keeps (fun b => S b ∨ b = a) m m' ∧
    (∃ A' : List Int,A'.length = 5 ∧ A'.take room = pre.map (fun n : Nat => (n : Int)) ∧ A'.drop rs.length = List.replicate (5 - rs.length) 0 ∧ m' a = some (.cells (A'.map (AV.int .i64)))) ∧
    ((r = .bool true ∧ J rest m') ∨ (r = .bool false ∧ F m'))
 | 0,room,pre,A,rest,m,hd,hp,hA,ht,hz,hma,hmc,hJ => by
  have hAe : A = manyI pre := by
   rw [← List.take_append_drop room A,ht]
   unfold manyI
   rw [show room = rs.length by omega,hz,hp,show room = rs.length by omega]
  rw [show room = rs.length by omega,List.drop_length,countsOf] at hJ
  have hJ' : J (pre :: rest) m := by simpa using hJ
  have h5 : ((A.map (AV.int .i64)).take 5) = (manyI pre).map (AV.int .i64) := by rw [← hAe]; exact List.take_of_length_le (by simp; omega)
  have hl5 : 5 ≤ (A.map (AV.int .i64)).length := by simp; omega
  have hyy := hy.y pre rest m hJ'
  simp only [manyA] at hyy
  simp only [capsN,seenF,List.cons_append,List.nil_append] at hmc ⊢
  (refine acall_intro (E := env fun _ => .imm) (envOk _) rfl Tryz.func151 rfl Tryz.call151 (by kernel_rfl) (by simp [Tryz.ntmps151]) ?_; simp only [Tryz.f151];  simp(maxSteps:=9^9)only[↓VX,VQ,seval])
  simp(maxSteps:=9^9)only[↓VX,VQ,seval,hma,h5]
  repeat'(first|intro _|apply And.intro)
  all_goals try first|omega|(simp only[LL];omega)|exact nlC (by decide) _|exact nbC rfl
  ·refine AYield.mono hyy fun r m' h => ?_
   simp(maxSteps:=9^9)only[↓VX,VQ,seval]
   obtain ⟨h1,h2⟩ := h
   exact ⟨fun b x hb hx => h1 b x (fun h => hb (.inl h)) hx,⟨A,hA,ht,hz,h1 a _ ha hma⟩,h2⟩
 | d + 1,room,pre,A,rest,m,hd,hp,hA,ht,hz,hma,hmc,hJ => by
  have ih := fun r p A' rest m' h1 h2 => cnext_c nm P rs hr hl hy a c h0a ha hc hac d r p A' rest m' h1 h2
  have hlt : room < rs.length := by omega
  obtain ⟨r1,r2,r3⟩ := hr rs[room] (List.getElem_mem hlt)
  rw [List.drop_eq_getElem_cons hlt,countsOf,map_flatMap_pre,upN_range r1 r2] at hJ
  have e1 : rs[room]! = rs[room] := getElem!_pos rs room hlt
  simp only [capsN,seenF,List.cons_append,List.nil_append] at ih hmc ⊢
  (refine acall_intro (E := env fun _ => .imm) (envOk _) rfl Tryz.func151 rfl Tryz.call151 (by kernel_rfl) (by simp [Tryz.ntmps151]) ?_; simp only [Tryz.f151];  simp(maxSteps:=9^9)only[↓VX,VQ,seval])
  repeat'(first|intro _|apply And.intro)
  all_goals try first|omega|(simp only[LL];omega)|exact nlC (by decide) _|exact nbC rfl
  refine aloop (envOk _) (fun q : Nat × List Int × Mem => ⟨[(0,.v (.int .i64 room)),(1,.v (.eptr [.eptr [.str nm,P,.slice 2 (rs.map spanR)]])),(2,.v (.eptr [.fn (.yield l) [] []])),(3,.v (.ptr a 0)),(4,.v (.ptr c 0)),(7,.v (.int .i64 q.1))],[],[],q.2.2⟩)
   (fun q => q.1 ≤ (rs[room]).2.toNat + 1 ∧ J (((List.range' q.1 ((rs[room]).2.toNat + 1 - q.1)).flatMap fun n => (countsOf (rs.drop (room + 1))).map ((pre ++ [n]) ++ ·)) ++ rest) q.2.2 ∧ Keeps (fun b => S b ∨ b = a) m q.2.2 ∧
    (q.2.1.length = 5 ∧ q.2.1.take room = pre.map (fun n : Nat => (n : Int)) ∧ q.2.1.drop rs.length = List.replicate (5 - rs.length) 0 ∧ q.2.2 a = some (.cells (q.2.1.map (AV.int .i64)))) ∧
    q.2.2 c = some (.cells [.fn (.func 151) [] [.eptr [.eptr [.str nm,P,.slice 2 (rs.map spanR)]],.eptr [.fn (.yield l) [] []],.ptr a 0,.ptr c 0]]))
   (fun q => (rs[room]).2.toNat + 1 - q.1) ((rs[room]).1.toNat,A,m) (fun _ => rfl) ⟨by dsimp only; omega,hJ,Keeps.refl _ _,⟨hA,ht,hz,hma⟩,hmc⟩ (by (simp only [FE,↓FP,seval]); simp only [e1]; simp; omega) ?_
  rintro ⟨n,A1,m1⟩ ⟨hn,hJ1,hk1,⟨hA1,ht1,hz1,hma1⟩,hmc1⟩
  dsimp only at hn hJ1 hk1 hA1 ht1 hz1 hma1 hmc1
  have hAl : (A1.map (AV.int .i64)).length = 5 := by simpa using hA1
  have hca : ¬ c = a := fun h => hac h.symm
  have hset : (A1.map (AV.int .i64)).take room ++ [AV.int .i64 (n : Int)] ++ (A1.map (AV.int .i64)).drop (room + 1) = (A1.set room (n : Int)).map (AV.int .i64) := by
   rw [List.map_set,List.set_eq_take_append_cons_drop,if_pos (by omega)]; simp
  have hr5 : room < A1.length := by omega
  have htn : (A1.set room (n : Int)).take (room + 1) = (pre ++ [n]).map (fun n : Nat => (n : Int)) := by
   rw [List.take_add_one,List.take_set_of_le (Nat.le_refl _),ht1,List.getElem?_set_self hr5]; simp
  simp(maxSteps:=9^9)only[↓VX,VQ,seval,hma1,hmc1,hAl,hca,hset,e1]
  repeat'(first|intro _|apply And.intro)
  all_goals try first|omega|(simp only[LL];omega)|exact nlC (by decide) _|exact nbC rfl
  ·have hnle : n < (rs[room]).2.toNat + 1 := by omega
   have e3 : List.range' n ((rs[room]).2.toNat + 1 - n) = n :: List.range' (n + 1) ((rs[room]).2.toNat + 1 - (n + 1)) := by
    rw [show (rs[room]).2.toNat + 1 - n = ((rs[room]).2.toNat + 1 - (n + 1)) + 1 by omega,List.range'_succ]
   rw [e3,List.flatMap_cons,List.append_assoc] at hJ1
   have hcall := ih (room + 1) (pre ++ [n]) (A1.set room (n : Int)) _ (upd m1 a (some (.cells ((A1.set room (n : Int)).map (AV.int .i64))))) (by omega) (by simp [hp]) (by simpa using hA1)
    htn (by rw [List.drop_set_of_lt hlt]; exact hz1) (upd_same _ _ _) (by rw [upd_ne _ _ hca]; exact hmc1) (hy.st _ _ _ _ ha h0a hJ1)
   rw [show ((room + 1 : Nat) : Int) = (room : Int) + 1 by omega] at hcall
   refine ACall.told hcall ?_
   rintro r m2 ⟨hk2,⟨A2,hA2,ht2,hz2,hma2⟩,hres⟩
   have ht3 : A2.take room = pre.map (fun n : Nat => (n : Int)) := by
    have := congrArg (List.take room) ht2
    rw [List.take_take,show min room (room + 1) = room by omega,List.map_append,List.take_append_of_le_length (by simp [hp])] at this
    rw [this]; exact List.take_of_length_le (by simp [hp])
   have hk3 : Keeps (fun b => S b ∨ b = a) m m2 := fun b x hb hx => hk2 b x hb ((upd_ne _ _ fun e => hb (.inr e)).trans (hk1 b x hb hx))
   have hmc2 := hk2 c _ (fun h => h.elim hc hca) ((upd_ne _ _ hca).trans hmc1)
   rcases hres with ⟨rfl,hJ2⟩ | ⟨rfl,hF⟩
   ·simp(maxSteps:=9^9)only[↓VX,VQ,seval]
    repeat'(first|intro _|apply And.intro)
    all_goals try first|omega|(simp only[LL];omega)|exact nlC (by decide) _|exact nbC rfl
    refine ⟨(n + 1,A2,m2),⟨by dsimp only; omega,hJ2,hk3,⟨hA2,ht3,hz2,hma2⟩,hmc2⟩,by dsimp only; omega,?_⟩
    (simp only [FE,↓FP,seval])
    simp
   ·simp(maxSteps:=9^9)only[↓VX,VQ,seval]
    exact ⟨hk3,⟨A2,hA2,ht3,hz2,hma2⟩,.inr hF⟩
  ·rename_i b x h1 h2; exact hk1 b x h1 h2
  ·exact ⟨A1,hA1,ht1,hz1,rfl⟩
  ·have e0 : (rs[room]).2.toNat + 1 - n = 0 := by omega
   rw [e0] at hJ1
   exact .inl (by simpa using hJ1)
theorem counts1_c (nm : ByteArray) (P : AV) (rs : List (Int × Int)) (hr : ∀ r ∈ rs,0 ≤ r.1 ∧ r.1 ≤ r.2 ∧ r.2 ≤ 1000) (hl : rs.length ≤ 5) {l : Nat} {S : Nat → Prop} {J : List (List Nat) → Mem → Prop} {F : Mem → Prop} {m : Mem} (hy : COk l m S J F)
  (hS : ∀ b,S b → m b ≠ none) (hJ : J (countsOf rs) m) :
  ACall Tryz.prog 150 [.fn (.yield l) [] [],.eptr [.eptr (seenF nm P rs)]] m fun _ m' => J [] m' ∨ F m' := by
 simp only [seenF]
 (refine acall_intro (E := envC (modeAt [] [3,4]) false []) (envCOk _ _ _) rfl Tryz.func150 rfl Tryz.call150 (by kernel_rfl) (by simp [Tryz.ntmps150]) ?_; simp only [Tryz.f150];  simp(maxSteps:=9^9)only[↓VX,VQ,seval])
 intro a hma c hmc
 have hca : c ≠ a := by rintro rfl; simp at hmc
 rw [if_neg hca] at hmc
 have hSa : ¬ S a := fun h => hS a h hma
 have hSc : ¬ S c := fun h => hS c h hmc
 have hz : ∀ k,k ≤ 5 → ([0,0,0,0,0] : List Int).drop k = List.replicate (5 - k) 0 := by decide
 have hcall := fun mm => cnext_c nm P rs hr hl hy a c hma hSa hSc (fun e => hca e.symm) rs.length 0 [] [0,0,0,0,0] [] mm (by omega) rfl rfl rfl (hz _ hl)
 simp only [capsN,seenF,List.cons_append,List.nil_append,Int.natCast_zero,List.drop_zero,List.append_nil,List.map_cons,List.map_nil,List.map_id'] at hcall
 refine ACall.told (hcall _ ?_ ?_ ?_) ?_
 ·simp [upd,hca.symm,hca]
 ·simp [upd,hca.symm,hca]
 ·exact hy.st _ _ _ _ hSc hmc (hy.st _ _ _ _ hSc hmc (hy.st _ _ _ _ hSa hma hJ))
 ·rintro r m2 ⟨_,_,⟨rfl,hJ2⟩ | ⟨rfl,hF⟩⟩
  ·simp(maxSteps:=9^9)only[↓VX,VQ,seval]
   exact .inl hJ2
  ·simp(maxSteps:=9^9)only[↓VX,VQ,seval]
   exact .inr hF
theorem counts_c (F : List AV) : PCall Tryz.prog 109 [.eptr F] (.fn (.func 150) [] [.eptr [.eptr F]]) := by
 intro m
 (refine acall_intro (E := env fun _ => .imm) (envOk _) rfl Tryz.func109 rfl Tryz.call109 (by kernel_rfl) (by simp [Tryz.ntmps109]) ?_; simp only [Tryz.f109];  simp(maxSteps:=9^9)only[↓VX,VQ,seval])
 repeat'(first|intro _|apply And.intro)
theorem letoff1_c (n lo hi : Int) : PCall Tryz.prog 135 [.int .i64 n,.eptr [.int .i64 lo],.eptr [.int .i64 hi]] (.bool (offP lo hi n)) := by
 intro m
 (refine acall_intro (E := env fun _ => .imm) (envOk _) rfl Tryz.func135 rfl Tryz.call135 (by kernel_rfl) (by simp [Tryz.ntmps135]) ?_; simp only [Tryz.f135];  simp(maxSteps:=9^9)only[↓VX,VQ,seval])
 repeat'(first|intro _|apply And.intro)
 all_goals simp_all [offP]
 all_goals omega
theorem letoff_c (lo hi : Int) (l : List Int) : PCall Tryz.prog 86 [.int .i64 lo,.int .i64 hi,ints l] (.bool (l.any (offP lo hi))) := by
 intro m
 (refine acall_intro (E := env fun _ => .imm) (envOk _) rfl Tryz.func86 rfl Tryz.call86 (by kernel_rfl) (by simp [Tryz.ntmps86]) ?_; simp only [Tryz.f86];  simp(maxSteps:=9^9)only[↓VX,VQ,seval])
 repeat'(first|intro _|apply And.intro)
 refine ACall.pure (containsInt_c 135 _ l (offP lo hi) fun x _ => letoff1_c x lo hi) ?_
 simp(maxSteps:=9^9)only[↓VX,VQ,seval]
 repeat'(first|intro _|apply And.intro)
theorem wordB_all {s : ByteArray} (h : ∀ i < s.size,letterAt (byteAt s i) = true) : wordB s = decide (1 ≤ s.size ∧ s.size ≤ 8) := by
 have : (List.range s.size).all (fun i => letterAt (byteAt s i)) = true := by
  rw [List.all_eq_true]; intro i hi; exact h i (List.mem_range.1 hi)
 simp [wordB,this]
theorem wordB_not {s : ByteArray} {i : Nat} (hi : i < s.size) (h : letterAt (byteAt s i) = false) : wordB s = false := by
 have : (List.range s.size).all (fun i => letterAt (byteAt s i)) = false := by
  rw [Bool.eq_false_iff]; intro h'
  rw [List.all_eq_true] at h'
  have := h' i (List.mem_range.2 hi)
  rw [h] at this; cases this
 simp [wordB,this]
theorem word_key {s : ByteArray} {k : Nat} (h : k < s.size) : (letterAt (Utf8.decode s k).1 = true → Utf8.decode s k = (byteAt s k,1) ∧ letterAt (byteAt s k) = true) ∧
  (letterAt (Utf8.decode s k).1 = false → letterAt (byteAt s k) = false) := by
 by_cases hb : byteAt s k < 128
 ·rw [decode_low h hb]; exact ⟨fun h' => ⟨rfl,h'⟩,fun h' => h'⟩
 ·have h1 := (decode_hi h (by omega)).1
  have h2 : letterAt (Utf8.decode s k).1 = false := decide_eq_false (by omega)
  have h3 : letterAt (byteAt s k) = false := decide_eq_false (by omega)
  rw [h2]; exact ⟨fun h => (by cases h),fun _ => h3⟩
theorem word_c (s : ByteArray) (hs : s.size ≤ 9223372036854775807) : PCall Tryz.prog 94 [.str s] (.bool (wordB s)) := by
 intro m
 refine ACall.forget ?_
 (refine acall_intro (E := envC (fun _ => .imm) false []) (envCOk _ _ _) rfl Tryz.func94 rfl Tryz.call94 (by kernel_rfl) (by simp [Tryz.ntmps94]) ?_; simp only [Tryz.f94];  simp(maxSteps:=9^9)only[↓VX,VQ,seval])
 intro b hmb
 refine aloop (envCOk _ _ _) (fun k : Nat => ⟨[(0,.v (.str s)),(6,.v (.ptr b 0))],[],[],upd m b (some (.iter s k))⟩)
  (fun k => k ≤ s.size ∧ ∀ i < k,letterAt (byteAt s i) = true) (fun k => s.size - k) 0 (fun _ => rfl) (by simp) (by (simp only [FE,↓FP,seval]); try simp) ?_
 rintro k ⟨hk,hp⟩
 simp(maxSteps:=9^9)only[↓VX,VQ,seval]
 repeat'(first|intro _|apply And.intro)
 all_goals try first|omega|(simp only[LL];omega)|exact nlC (by decide) _|exact nbC rfl
 ·rename_i hlt h1
  refine ⟨m,fun b' x hx => ?_,?_,rfl⟩
  ·have : b' ≠ b := by rintro rfl; rw [hmb] at hx; cases hx
   rw [if_neg this,if_neg this]; exact hx
  ·rw [wordB_not (by omega) ((word_key (by omega)).2 (decide_eq_false (by omega)))]
 ·obtain ⟨k3,k4⟩ := (word_key (s := s) (k := k) (by omega)).1 (decide_eq_true (by omega))
  refine ⟨k + 1,⟨by omega,fun i hi => ?_⟩,by dsimp only; omega,?_⟩
  ·by_cases e : i = k
   ·subst e; exact k4
   ·exact hp i (by omega)
  ·(simp only [FE,↓FP,seval])
   rw [k3]
   exact upd_upd _ _ _ _
 ·refine ⟨m,fun b' x hx => ?_,?_,rfl⟩
  ·have : b' ≠ b := by rintro rfl; rw [hmb] at hx; cases hx
   rw [if_neg this,if_neg this]; exact hx
  ·rw [wordB_not (by omega) ((word_key (by omega)).2 (decide_eq_false (by omega)))]
 ·(refine ACall.pure (letoff_c 1 8 [(s.size : Int)]) ?_; try simp(maxSteps:=9^9)only[↓VX,VQ,seval])
  refine forget_fin hmb ?_
  rw [wordB_all fun i hi => hp i (by omega)]
  simp [offP]
  rw [Bool.eq_iff_iff]
  simp
  omega
theorem indexW_c (g : FuncId) (caps : List AV) (l : List ByteArray) (p : ByteArray → Bool) (h : ∀ x ∈ l,PCall Tryz.prog g ([.str x] ++ caps) (.bool (p x))) :
  PCall Tryz.prog 170 [strs l,.fn (.func g) [] caps] (.int .i64 (idxL p l)) := by
 intro m
 simp only [strs]
 (refine acall_len Tryz.call170 fun hlen => ?_; refine acall_intro (E := env fun _ => .imm) (envOk _) rfl Tryz.func170 rfl Tryz.call170 (by kernel_rfl) (by simp [Tryz.ntmps170]) ?_; simp only [Tryz.f170];  simp(maxSteps:=9^9)only[↓VX,VQ,seval])
 simp only [lenOk_cons,lenOk_nil,List.length_map,and_true,maxLen_eq] at hlen
 intro _
 refine aloop (envOk _) (fun k : Nat => ⟨[(0,.v (.slice 1 (l.map AV.str))),(1,.v (.fn (.func g) [] caps)),(7,.v (.int .i64 l.length)),(8,.v (.int .i64 k))],[],[],m⟩) (fun k => k ≤ l.length ∧ ∀ x ∈ l.take k,p x = false) (fun k => l.length - k) 0 (fun _ => rfl) (by simp) (by (simp only [FE,↓FP,seval]); try simp) ?_
 rintro k ⟨hk,hp⟩
 simp(maxSteps:=9^9)only[↓VX,VQ,seval]
 repeat'(first|intro _|apply And.intro)
 all_goals try first|omega|(simp only[LL];omega)|exact nlC (by decide) _|exact nbC rfl
 ·have hlt : k < l.length := by omega
  have e1 : l[k]! = l[k] := getD_any hlt
  have hc := h _ (List.getElem_mem hlt)
  rw [← e1] at hc
  refine ACall.pure hc ?_
  simp(maxSteps:=9^9)only[↓VX,VQ,seval]
  repeat'(first|intro _|apply And.intro)
  all_goals try first|omega|(simp only[LL];omega)|exact nlC (by decide) _|exact nbC rfl
  ·rename_i hpx
   rw [idxL_at hlt hp (by rw [← e1]; exact hpx)]
  ·have hpx : ¬ p l[k]! = true := by assumption
   refine ⟨k + 1,⟨by omega,forall_take_succ hlt hp (by rw [← e1]; simpa using hpx)⟩,by dsimp only; omega,?_⟩
   (simp only [FE,↓FP,seval])
   simp
 ·have : l.take k = l := List.take_of_length_le (by omega)
  rw [this] at hp
  rw [idxL_neg hp]
theorem containsW_c (g : FuncId) (caps : List AV) (l : List ByteArray) (p : ByteArray → Bool) (h : ∀ x ∈ l,PCall Tryz.prog g ([.str x] ++ caps) (.bool (p x))) :
  PCall Tryz.prog 136 [strs l,.fn (.func g) [] caps] (.bool (l.any p)) := by
 intro m
 have hi := indexW_c g caps l p h
 simp only [strs] at hi ⊢
 (refine acall_intro (E := env fun _ => .imm) (envOk _) rfl Tryz.func136 rfl Tryz.call136 (by kernel_rfl) (by simp [Tryz.ntmps136]) ?_; simp only [Tryz.f136];  simp(maxSteps:=9^9)only[↓VX,VQ,seval])
 (refine ACall.pure (hi) ?_; try simp(maxSteps:=9^9)only[↓VX,VQ,seval])
 repeat'(first|intro _|apply And.intro)
 rw [idxL_any]
def sizesFit (l : List ByteArray) : Prop := ∀ s ∈ l,s.size ≤ 9223372036854775807
theorem worded1_c (s : ByteArray) (hs : s.size ≤ 9223372036854775807) : PCall Tryz.prog 137 [.str s] (.bool (!wordB s)) := by
 intro m
 have hw := word_c s hs
 (refine acall_intro (E := env fun _ => .imm) (envOk _) rfl Tryz.func137 rfl Tryz.call137 (by kernel_rfl) (by simp [Tryz.ntmps137]) ?_; simp only [Tryz.f137];  simp(maxSteps:=9^9)only[↓VX,VQ,seval])
 (refine ACall.pure (hw) ?_; try simp(maxSteps:=9^9)only[↓VX,VQ,seval])
 repeat'(first|intro _|apply And.intro)
theorem not_words (l : List ByteArray) : (l.any fun s => !wordB s) = !wordsB l := by
 unfold wordsB
 rw [List.not_all_eq_any_not]
theorem letworded_c (l : List ByteArray) (hl : sizesFit l) : PCall Tryz.prog 87 [strs l] (.int .i64 (if wordsB l = true then 0 else 6)) := by
 intro m
 have hc := containsW_c 137 [] l (fun s => !wordB s) fun s hs => worded1_c s (hl s hs)
 rw [not_words] at hc
 generalize wordsB l = b at *
 simp only [strs] at hc ⊢
 (refine acall_intro (E := env fun _ => .imm) (envOk _) rfl Tryz.func87 rfl Tryz.call87 (by kernel_rfl) (by simp [Tryz.ntmps87]) ?_; simp only [Tryz.f87];  simp(maxSteps:=9^9)only[↓VX,VQ,seval])
 (refine ACall.pure (hc) ?_; try simp(maxSteps:=9^9)only[↓VX,VQ,seval])
 repeat'(first|intro _|apply And.intro)
 all_goals simp_all
theorem lettered_c (l : List ByteArray) (hl : sizesFit l) : PCall Tryz.prog 52 [strs l] (.int .i64 (letE l)) := by
 intro m
 have hc := letworded_c l hl
 unfold letE
 generalize (if wordsB l = true then (0 : Int) else 6) = e at *
 simp only [strs] at hc ⊢
 (refine acall_intro (E := env fun _ => .imm) (envOk _) rfl Tryz.func52 rfl Tryz.call52 (by kernel_rfl) (by simp [Tryz.ntmps52]) ?_; simp only [Tryz.f52];  simp(maxSteps:=9^9)only[↓VX,VQ,seval])
 repeat'(first|intro _|apply And.intro)
 all_goals try first|omega|(simp only[LL];omega)|exact nlC (by decide) _|exact nbC rfl
 ·rw [if_pos (by omega)]
 ·(refine ACall.pure (hc) ?_; try simp(maxSteps:=9^9)only[↓VX,VQ,seval])
  repeat'(first|intro _|apply And.intro)
  rw [if_neg (by omega)]
theorem wordB_size {s : ByteArray} (h : ¬ (1 ≤ s.size ∧ s.size ≤ 8)) : wordB s = false := by
 unfold wordB; rw [decide_eq_false h]; rfl
theorem refWord_c (s : ByteArray) (hs : s.size ≤ 9223372036854775807) : PCall Tryz.prog 23 [.str s] (.bool (wordB s)) := by
 intro m
 (refine acall_intro (E := env fun _ => .imm) (envOk _) rfl Tryz.func23 rfl Tryz.call23 (by kernel_rfl) (by simp [Tryz.ntmps23]) ?_; simp only [Tryz.f23];  simp(maxSteps:=9^9)only[↓VX,VQ,seval])
 (refine ACall.pure (in_c _ _ _) ?_; try simp(maxSteps:=9^9)only[↓VX,VQ,seval])
 repeat'(first|intro _|apply And.intro)
 all_goals try first|omega|(simp only[LL];omega)|exact nlC (by decide) _|exact nbC rfl
 ·rw [wordB_size (by omega)]
 refine aloop (envOk _) (fun k : Nat => ⟨[(0,.v (.str s)),(3,.v (.int .i64 k))],[],[],m⟩) (fun k => k ≤ s.size ∧ ∀ i < k,letterAt (byteAt s i) = true) (fun k => s.size - k) 0 (fun _ => rfl) (by simp) (by (simp only [FE,↓FP,seval]); try simp) ?_
 rintro k ⟨hk,hp⟩
 have hb := byteAt_lt s k
 simp(maxSteps:=9^9)only[↓VX,VQ,seval,byte_fold]
 repeat'(first|intro _|apply And.intro)
 all_goals try first|omega|(simp only[LL];omega)|exact nlC (by decide) _|exact nbC rfl
 ·rw [wordB_not (i := k) (by omega) (decide_eq_false (by omega))]
 ·refine ⟨k + 1,⟨by omega,fun i hi => ?_⟩,by dsimp only; omega,?_⟩
  ·by_cases e : i = k
   ·subst e; exact decide_eq_true (by omega)
   ·exact hp i (by omega)
  ·(simp only [FE,↓FP,seval])
   simp
 ·rw [wordB_not (i := k) (by omega) (decide_eq_false (by omega))]
 ·rw [wordB_all fun i hi => hp i (by omega),decide_eq_true (by omega)]
theorem refRoomy_c (p : RPart) : PCall Tryz.prog 92 [partA p] (.bool (decide (p.words = []))) := by
 intro m
 simp only [partA,strs]
 (refine acall_intro (E := env fun _ => .imm) (envOk _) rfl Tryz.func92 rfl Tryz.call92 (by kernel_rfl) (by simp [Tryz.ntmps92]) ?_; simp only [Tryz.f92];  simp(maxSteps:=9^9)only[↓VX,VQ,seval])
 repeat'(first|intro _|apply And.intro)
 congr 1
 rw [decide_eq_decide]
 simp
theorem eqFlatSpan (a b a' b' : Int) : EqFlat Tryz.prog 84 [.int .i64 a,.int .i64 b] [.int .i64 a',.int .i64 b'] (decide (a = a') && (decide (b = b') && true)) := by
 intro vs vs' com w x y h h'
 obtain ⟨v1,vs,rfl,r1,h⟩ := Reps.cons_inv h
 obtain ⟨v2,vs,rfl,r2,h⟩ := Reps.cons_inv h
 obtain rfl := Reps.nil_inv h
 obtain ⟨u1,us,rfl,s1,h'⟩ := Reps.cons_inv h'
 obtain ⟨u2,us,rfl,s2,h'⟩ := Reps.cons_inv h'
 obtain rfl := Reps.nil_inv h'
 obtain rfl := rep_int r1; obtain rfl := rep_int r2
 obtain rfl := rep_int s1; obtain rfl := rep_int s2
 have hg : Tryz.prog.eqGuardType Tryz.prog.depth 84 = false := by kernel_rfl
 have hu : Tryz.prog.underlying 84 = some (.struct (Tryz.prog.fieldsOf 84)) := by kernel_rfl
 have hs : Tryz.prog.stoodInHeld 84 = false := by kernel_rfl
 have key : (Op.equalIn 10000 84 (.agg #[.int .i64 a,.int .i64 b]) (.agg #[.int .i64 a',.int .i64 b'])).run Tryz.prog w =
   .ok (decide (a = a') && (decide (b = b') && true)) w := by
  rw [run_equalIn_agg w 9999 84 _ _ hu hs]
  simp only [Program.fieldsOf,Tryz.underlying84]
  exact eqStep (by decide) rfl rfl rfl (eqStep (by decide) rfl rfl rfl (by simp [Op.eqFields]))
 constructor
 ·rw [Sem.run_bind,run_eqGuard_agg w .eql 84 x y _ _ hg,Result.andThen_ok,run_eql_struct,key]; rfl
 ·rw [Sem.run_bind,run_eqGuard_agg w .neq 84 x y _ _ hg,Result.andThen_ok,run_neq_struct,key]; rfl
theorem parted_c (p : RPart) (hp : sizesFit p.words) : PCall Tryz.prog 108 [partA p] (.int .i64 (partE p)) := by
 intro m
 have hw := letworded_c p.words hp
 have hof := letoff_c 0 3 [p.lo,p.hi]
 simp only [ints,List.map_cons,List.map_nil,List.any_cons,List.any_nil,Bool.or_false] at hof
 have heq := eqFlatSpan p.lo p.hi 0 0
 obtain ⟨E,hE⟩ : ∃ E,E = partE p := ⟨_,rfl⟩
 rw [← hE]
 unfold partE at hE
 obtain ⟨w,hwE⟩ : ∃ w,w = wordsB p.words := ⟨_,rfl⟩
 rw [← hwE] at hw hE
 obtain ⟨o,hoE⟩ : ∃ o,o = (offP 0 3 p.lo || offP 0 3 p.hi) := ⟨_,rfl⟩
 rw [← hoE] at hof hE
 clear hwE hoE
 have hz : (p.words = []) = (p.words.length = 0) := by simp
 simp only [ne_eq,hz] at hE
 simp only [Bool.and_true] at heq
 simp only [partA,strs] at hw ⊢
 cases w
 ·rw [if_neg (by decide)] at hw
  (refine acall_intro (E := env fun _ => .imm) (envOk _) rfl Tryz.func108 rfl Tryz.call108 (by kernel_rfl) (by simp [Tryz.ntmps108]) ?_; simp only [Tryz.f108];  simp(maxSteps:=9^9)only[↓VX,VQ,seval])
  (refine ACall.pure (hw) ?_; try simp(maxSteps:=9^9)only[↓VX,VQ,seval])
  repeat'(first|intro _|apply And.intro)
  all_goals try first|omega|(simp only[LL];omega)|exact nlC (by decide) _|exact nbC rfl
  ·rw [hE,if_pos (by omega)]
  ·rw [hE,if_neg (by omega),if_pos rfl]
 ·rw [if_pos rfl] at hw
  (refine acall_intro (E := env fun _ => .imm) (envOk _) rfl Tryz.func108 rfl Tryz.call108 (by kernel_rfl) (by simp [Tryz.ntmps108]) ?_; simp only [Tryz.f108];  simp(maxSteps:=9^9)only[↓VX,VQ,seval])
  (refine ACall.pure (hw) ?_; try simp(maxSteps:=9^9)only[↓VX,VQ,seval])
  repeat'(first|intro _|apply And.intro)
  all_goals try first|omega|(simp only[LL];omega)|exact nlC (by decide) _|exact nbC rfl
  ·rw [hE,if_pos (by omega)]
  ·exact (heq _ _ _ _ _ _ (by assumption) (by assumption)).1
  ·exact (heq _ _ _ _ _ _ (by assumption) (by assumption)).2
  ·rw [hE,if_neg (by omega),if_neg (by decide),if_pos (by omega)]
   simp_all
  ·rw [hE,if_neg (by omega),if_neg (by decide),if_pos (by omega)]
   simp_all
  ·rw [if_neg (by omega),if_neg (by decide),if_neg (by omega)] at hE
   cases o
   all_goals simp only [Bool.false_eq_true,false_or,true_or,if_true] at hE
   all_goals ((refine ACall.pure (hof) ?_; try simp(maxSteps:=9^9)only[↓VX,VQ,seval]))
   all_goals try repeat'(first|intro _|apply And.intro)
   all_goals try first|omega|(simp only[LL];omega)|exact nlC (by decide) _|exact nbC rfl
   all_goals (rw [hE]; try repeat' (first | rw [if_pos (by omega)] | rw [if_neg (by omega)]))
end Go.Proofs.YtdmejgfcaacdoaaGreat.Abs
