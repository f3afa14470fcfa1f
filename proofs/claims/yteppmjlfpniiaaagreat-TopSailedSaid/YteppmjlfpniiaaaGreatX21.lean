/- Lemmas for the statements of this seat (X21): they hold without conditions beyond those that each one states. -/
import Derived.Test.YteppmjlfpniiaaaGreatX19
import Derived.Test.YteppmjlfpniiaaaGreatX6
import Derived.Test.YteppmjlfpniiaaaGreatX12
import Derived.Test.YteppmjlfpniiaaaGreatX8
import Derived.Lib.AppendZerosOnto
/- Contracts: a hall that is looked at. -/
namespace Go.Proofs.YteppmjlfpniiaaaGreat.Abs
set_option linter.unusedSimpArgs false
set_option maxHeartbeats 4000000
set_option maxRecDepth 100000
open Go Go.RowKit Go.Proofs
theorem dlook_c (h : RHall) (hn : h.wri.length ≤ 3) (hm : h.cus.length ≤ 5) (m : Mem) : ACall Tryz.prog 43 [hallA h] m (fun r m' => ∃ hb km : Nat,r = .ptr hb 0 ∧ m hb = none ∧ m km = none ∧ hb ≠ km ∧ m' = upd (upd m km (some (.map []))) hb (some (.cells (hallC h (2 ^ h.wri.length - 1) (2 ^ h.cus.length - 1) km)))) := by
  have p1 : 2 ^ h.wri.length ≤ 8 := Nat.pow_le_pow_right (n := 2) (by decide) hn
  have p2 : 2 ^ h.cus.length ≤ 32 := Nat.pow_le_pow_right (n := 2) (by decide) hm
  have p3 : 0 < 2 ^ h.wri.length := Nat.pow_pos (by decide)
  have p4 : 0 < 2 ^ h.cus.length := Nat.pow_pos (by decide)
  simp only [hallA,hallC,hallL,List.cons_append,List.nil_append]
  (refine acall_intro (E := envC (modeAt [] [16]) false []) (envCOk _ _ _) rfl Tryz.func43 rfl Tryz.call43 (by kernel_rfl) (by simp [Tryz.ntmps43]) ?_; simp only [Tryz.f43];  simp(maxSteps:=9^9)only[↓VX,VQ,seval,Int.reduceEq,buildV])
  (refine adraw (by first | exact envOk _ | exact envCOk _ _ _) mixed [⟨true,false,0⟩,⟨true,false,0⟩,⟨true,false,0⟩,⟨true,false,0⟩,⟨true,false,0⟩,⟨true,false,0⟩,⟨true,false,0⟩,⟨true,false,0⟩,⟨true,false,0⟩,⟨true,false,0⟩,⟨true,false,0⟩,⟨false,false,2⟩,⟨false,false,0⟩,⟨false,false,2⟩,⟨false,false,0⟩] (by kernel_rfl) ?_; show vcOpsD _ _ _ (_ :: _) _ _)
  simp(maxSteps:=9^9)only[↓VX,VQ,seval,buildV,vcAppE]
  repeat'(first|intro _|apply And.intro)
  all_goals try first|omega|(simp only[LL];omega)|exact nlC (by decide) _|exact nbC rfl
  rename_i km h1 hb h2
  have hne : hb ≠ km := by
    rintro rfl
    rw [if_pos rfl] at h2
    cases h2
  rw [if_neg hne] at h2
  have e1 : ((2 ^ h.wri.length - 1 : Nat) : Int) = ((2 ^ h.wri.length : Nat) : Int) - 1 := by omega
  have e2 : ((2 ^ h.cus.length - 1 : Nat) : Int) = ((2 ^ h.cus.length : Nat) : Int) - 1 := by omega
  refine ⟨hb,km,rfl,h2,h1,hne,?_⟩
  rw [e1,e2]
theorem span9_c (a b : Int) : PCall Tryz.prog 36 [.int .i64 a,.int .i64 b] (.agg [.int .i64 a,.int .i64 b]) := by
  intro m
  (refine acall_intro (E := envC (modeAt [4] []) false []) (envCOk _ _ _) rfl Tryz.func36 rfl Tryz.call36 (by kernel_rfl) (by simp [Tryz.ntmps36]) ?_; simp only [Tryz.f36];  simp(maxSteps:=9^9)only[↓VX,VQ,seval])
  unfold vcSome
  simp only [buildFrom,placeOf]
  simp(maxSteps:=9^9)only[↓VX,VQ,seval]
theorem hall9_c (n : Int) : PCall Tryz.prog 28 [.int .i64 n] (hallA (exHall n)) := by
  intro m
  have h1 := span9_c 2 4
  have h2 := span9_c 5 8
  have h3 := span9_c 6 10
  have h4 := span9_c 4 6
  simp only [hallA,hallL,exHall,List.map_cons,List.map_nil,wriA,cusA]
  (refine acall_intro (E := envC (modeAt [2] []) false []) (envCOk _ _ _) rfl Tryz.func28 rfl Tryz.call28 (by kernel_rfl) (by simp [Tryz.ntmps28]) ?_; simp only [Tryz.f28];  simp(maxSteps:=9^9)only[↓VX,VQ,seval,buildV,Int.reduceEq])
  (refine ACall.pure (h1) ?_; try simp(maxSteps:=9^9)only[↓VX,VQ,seval,GL,buildV,Int.reduceEq])
  (refine ACall.pure (h2) ?_; try simp(maxSteps:=9^9)only[↓VX,VQ,seval,GL,buildV,Int.reduceEq])
  (refine ACall.pure (h3) ?_; try simp(maxSteps:=9^9)only[↓VX,VQ,seval,GL,buildV,Int.reduceEq])
  (refine ACall.pure (h4) ?_; try simp(maxSteps:=9^9)only[↓VX,VQ,seval,GL,buildV,Int.reduceEq])
  try rfl
def rowsA (p : List (List Int)) : AV := .slice 1 (p.map ints)
theorem plan9_c : PCall Tryz.prog 29 [] (rowsA [[1],[2,0]]) := by
  intro m
  simp only [rowsA,List.map_cons,List.map_nil,ints]
  (refine acall_intro (E := envC (modeAt [] []) false []) (envCOk _ _ _) rfl Tryz.func29 rfl Tryz.call29 (by kernel_rfl) (by simp [Tryz.ntmps29]) ?_; simp only [Tryz.f29];  simp(maxSteps:=9^9)only[↓VX,VQ,seval,buildV,Int.reduceEq])
  try rfl
theorem indexZ_c (l : List Int) (x : Int) : PCall Tryz.prog 129 [ints l,.int .i64 x] (.int .i64 (idxL (fun y => decide (x = y)) l)) := by
  intro m
  simp only [ints]
  (refine acall_len Tryz.call129 fun hlen => ?_; refine acall_intro (E := env fun _ => .imm) (envOk _) rfl Tryz.func129 rfl Tryz.call129 (by kernel_rfl) (by simp [Tryz.ntmps129]) ?_; simp only [Tryz.f129];  simp(maxSteps:=9^9)only[↓VX,VQ,seval])
  simp only [lenOk_cons,lenOk_nil,List.length_map,and_true,maxLen_eq] at hlen
  repeat'(first|intro _|apply And.intro)
  refine aloop (envOk _) (fun k : Nat => ⟨[(0,.v (.slice 1 (l.map (AV.int .i64)))),(1,.v (.int .i64 x)),(7,.v (.int .i64 l.length)),(8,.v (.int .i64 k))],[],[],m⟩)
    (fun k => k ≤ l.length ∧ ∀ y ∈ l.take k,¬ x = y) (fun k => l.length - k) 0 (fun _ => rfl) (by simp) (by (simp only [FE,↓FP,seval]); try simp) ?_
  rintro k ⟨hk,hp⟩
  simp(maxSteps:=9^9)only[↓VX,VQ,seval,↓ixZ]
  repeat'(first|intro _|apply And.intro)
  all_goals try first|omega|(simp only[LL];omega)|exact nlC (by decide) _|exact nbC rfl
  · have hlt : k < l.length := by omega
    have q : x = l[k]! := by assumption
    rw [idxL_at (p := fun y => decide (x = y)) hlt (fun y hy => decide_eq_false (hp y hy)) (by rw [← getD_any hlt,← q]; simp)]
  · have hlt : k < l.length := by omega
    have q : ¬ x = l[k]! := by assumption
    refine ⟨k + 1,⟨by omega,forall_take_succ (p := fun y => ¬ x = y) hlt hp (by rw [← getD_any hlt]; exact q)⟩,by dsimp only; omega,?_⟩
    simp only [FE,↓FP,seval]
    simp
  · have : l.take k = l := List.take_of_length_le (by omega)
    rw [this] at hp
    rw [idxL_neg (p := fun y => decide (x = y)) (fun y hy => decide_eq_false (hp y hy))]
theorem containsZ_c (l : List Int) (x : Int) : PCall Tryz.prog 118 [ints l,.int .i64 x] (.bool (decide (x ∈ l))) := by
  intro m
  have h1 := indexZ_c l x
  have e : decide (x ∈ l) = l.any (fun y => decide (x = y)) := by
    rw [Bool.eq_iff_iff,List.any_eq_true,decide_eq_true_eq]
    constructor
    · intro h; exact ⟨x,h,by simp⟩
    · rintro ⟨y,h,q⟩
      rw [decide_eq_true_eq] at q
      rw [q]; exact h
  rw [e]
  (refine acall_intro (E := env fun _ => .imm) (envOk _) rfl Tryz.func118 rfl Tryz.call118 (by kernel_rfl) (by simp [Tryz.ntmps118]) ?_; simp only [Tryz.f118];  simp(maxSteps:=9^9)only[↓VX,VQ,seval])
  refine ACall.pure h1 ?_
  simp(maxSteps:=9^9)only[↓VX,VQ,seval]
  repeat'(first|intro _|apply And.intro)
  rw [idxL_any]
/-! ### What is so of a customer in a plan -/
def eachL (S : Nat → Int → List Int → Bool) (w : Nat) : List Int → List Int → Bool
  | _,[] => false
  | b,c :: l => S w c b || eachL S w (b ++ [c]) l
def eachP (S : Nat → Int → List Int → Bool) : Nat → List Int → List (List Int) → Bool
  | _,_,[] => false
  | w,b,l :: p => eachL S w b l || eachP S (w + 1) (b ++ l) p
theorem each_c (g : FuncId) (caps : List AV) (p : List (List Int)) (hp : p.flatten.length ≤ 1000) (S : Nat → Int → List Int → Bool) (m : Mem)
    (h : ∀ w c b,w < p.length → c ∈ p[w]! → ACall Tryz.prog g ([.int .i64 w,.int .i64 c,ints b] ++ caps) m (fun r m' => r = .bool (S w c b) ∧ m' = m)) :
    ACall Tryz.prog 114 [rowsA p,.fn (.func g) [] caps] m (fun r m' => r = .bool (eachP S 0 [] p) ∧ m' = m) := by
  simp only [rowsA,ints] at h ⊢
  refine acall_len Tryz.call114 fun hlen => ?_; (refine acall_intro (E := envC (modeAt [] []) false [8]) (envCOk _ _ _) rfl Tryz.func114 rfl Tryz.call114 (by kernel_rfl) (by simp [Tryz.ntmps114]) ?_; simp only [Tryz.f114];  simp(maxSteps:=9^9)only[↓VX,VQ,seval])
  simp only [lenOk_cons,lenOk_nil,List.length_map,and_true,maxLen_eq] at hlen
  repeat'(first|intro _|apply And.intro)
  refine aloop (envCOk _ _ _) (fun w : Nat => ⟨[(0,.v (.slice 1 (p.map ints))),(1,.v (.fn (.func g) [] caps)),(5,.v (ints (p.take w).flatten)),(10,.v (.slice 1 (p.map ints))),(11,.v (.int .i64 p.length)),(12,.v (.int .i64 w))],[5],[],m⟩)
    (fun w => w ≤ p.length ∧ eachP S w (p.take w).flatten (p.drop w) = eachP S 0 [] p) (fun w => p.length - w) 0 (fun _ => rfl) (by simp) (by (simp only [FE,↓FP,seval]); try simp [ints]) ?_
  rintro w ⟨hw,he⟩
  by_cases hlt : w < p.length
  · have htk : (p.take (w + 1)).flatten = (p.take w).flatten ++ p[w]! := by rw [getD_any hlt,List.take_succ_eq_append_getElem hlt,List.flatten_append]; simp
    have hpre : ((p.take w).flatten ++ p[w]!).length ≤ 1000 := by
      rw [← htk]
      have : p.flatten = (p.take (w + 1)).flatten ++ (p.drop (w + 1)).flatten := by rw [← List.flatten_append,List.take_append_drop]
      rw [this,List.length_append] at hp
      omega
    rw [List.length_append] at hpre
    rw [List.drop_eq_getElem_cons hlt,← getD_any hlt] at he
    have he : (eachL S w (p.take w).flatten (p[w]!) || eachP S (w + 1) ((p.take w).flatten ++ p[w]!) (p.drop (w + 1))) = eachP S 0 [] p := he
    have hcall := fun c b hc => h w c b hlt hc
    generalize (p.take w).flatten = B at *
    simp only [ints]
    simp(maxSteps:=9^9)only[↓VX,VQ,seval,↓ixInts]
    repeat'(first|intro _|apply And.intro)
    all_goals try first|omega|(simp only[LL];omega)|exact nlC (by decide) _|exact nbC rfl
    refine aloop (envCOk _ _ _) (fun i : Nat => ⟨[(0,.v (.slice 1 (p.map ints))),(1,.v (.fn (.func g) [] caps)),(5,.v (.slice 1 ((B ++ (p[w]!).take i).map (AV.int .i64)))),(6,.v (.int .i64 w)),(10,.v (.slice 1 (p.map ints))),(11,.v (.int .i64 p.length)),(12,.v (.int .i64 w)),(17,.v (.slice 1 ((p[w]!).map (AV.int .i64)))),(18,.v (.int .i64 (p[w]!).length)),(19,.v (.int .i64 i))],[5],[],m⟩)
      (fun i => i ≤ (p[w]!).length ∧ eachL S w (B ++ (p[w]!).take i) ((p[w]!).drop i) = eachL S w B (p[w]!)) (fun i => (p[w]!).length - i) 0 (fun _ => rfl) (by simp) (by (simp only [FE,↓FP,seval]); try simp [ints]) ?_
    rintro i ⟨hi,hie⟩
    have htl : (List.take i (p[w]!)).length ≤ 1000 := by rw [List.length_take]; omega
    simp(maxSteps:=9^9)only[↓VX,VQ,seval,↓ixZ]
    repeat'(first|intro _|apply And.intro)
    all_goals try first|omega|(simp only[LL];omega)|exact nlC (by decide) _|exact nbC rfl
    · have hil : i < (p[w]!).length := by omega
      have e1 : (p[w]!)[i]! = (p[w]!)[i] := getD_any hil
      have hc := hcall ((p[w]!)[i]!) (B ++ (p[w]!).take i) (by rw [e1]; exact List.getElem_mem hil)
      have hsn : (p[w]!).take (i + 1) = (p[w]!).take i ++ [(p[w]!)[i]!] := by rw [e1,List.take_succ_eq_append_getElem hil]
      rw [List.drop_eq_getElem_cons hil,← e1] at hie
      have hie : (S w ((p[w]!)[i]!) (B ++ (p[w]!).take i) || eachL S w (B ++ (p[w]!).take i ++ [(p[w]!)[i]!]) ((p[w]!).drop (i + 1))) = eachL S w B (p[w]!) := hie
      rw [List.append_assoc,← hsn] at hie
      refine acut_keep_at 3 (envCOk _ _ _) rfl rfl rfl (fun (_ : Unit) => ⟨[(0,.v (.slice 1 (p.map ints))),(1,.v (.fn (.func g) [] caps)),(5,.v (.slice 1 ((B ++ (p[w]!).take i).map (AV.int .i64)))),(6,.v (.int .i64 w)),(9,.v (.int .i64 ((p[w]!)[i]!))),(10,.v (.slice 1 (p.map ints))),(11,.v (.int .i64 p.length)),(12,.v (.int .i64 w)),(17,.v (.slice 1 ((p[w]!).map (AV.int .i64)))),(18,.v (.int .i64 (p[w]!).length)),(19,.v (.int .i64 i)),(27,.v (.bool (S w ((p[w]!)[i]!) (B ++ (p[w]!).take i))))],[5],[],m⟩) (fun _ => True) (fun _ => rfl) ?_ ?_
      · show vcOps _ _ (_ :: _) _ _
        simp(maxSteps:=9^9)only[↓VX,VQ,seval,List.take_succ_cons,List.take_zero,SV.refs,not_false_eq_true,implies_true]
        repeat'(first|intro _|apply And.intro)
        all_goals try first|omega|(simp only[LL];omega)|exact nlC (by decide) _|exact nbC rfl
        refine ACall.told hc ?_
        rintro r m1 ⟨rfl,rfl⟩
        simp(maxSteps:=9^9)only[↓VX,VQ,seval]
        exact ⟨(),by (simp only [FE,↓FP,seval])⟩
      rintro _ _
      simp(maxSteps:=9^9)only[↓VX,VQ,seval]
      generalize S w ((p[w]!)[i]!) (B ++ (p[w]!).take i) = q at *
      cases q
      · simp(maxSteps:=9^9)only[↓VX,VQ,seval]
        repeat'(first|intro _|apply And.intro)
        all_goals try first|omega|(simp only[LL];omega)|exact nlC (by decide) _|exact nbC rfl
        all_goals first
          | (simp only [List.length_append,List.length_take]; omega)
          | (rw [Bool.false_or] at hie
             refine ⟨i + 1,⟨by omega,hie⟩,by dsimp only; omega,?_⟩
             (simp only [FE,↓FP,seval])
             rw [hsn]
             simp)
      · simp(maxSteps:=9^9)only[↓VX,VQ,seval]
        rw [Bool.true_or] at hie
        rw [← hie,Bool.true_or] at he
        rw [← he]
    · have hie2 : i = (p[w]!).length := by omega
      subst hie2
      rw [List.drop_length,List.take_length] at hie
      have hie : false = eachL S w B (p[w]!) := hie
      rw [← hie,Bool.false_or] at he
      refine ⟨w + 1,⟨by omega,by rw [htk]; exact he⟩,by dsimp only; omega,?_⟩
      (simp only [FE,↓FP,seval])
      rw [htk]
      simp
  · have hwe : w = p.length := by omega
    subst hwe
    rw [List.drop_length] at he
    have he : false = eachP S 0 [] p := he
    simp(maxSteps:=9^9)only[↓VX,VQ,seval]
    repeat'(first|intro _|apply And.intro)
    all_goals try first|omega|(simp only[LL];omega)|exact nlC (by decide) _|exact nbC rfl
    rw [he]
theorem grow_zero (w : World) (base : Option Addr) : Calls Tryz.prog 130 #[.slice base 0 0,.int .i64 0] w fun e w' => e = .returned (.slice base 0 0) ∧ w' = w := by
  go_enter Tryz.func130,Tryz.ntmps130
  go_wp2
  go_ret
  exact ⟨rfl,rfl⟩
theorem grow_some (w : World) (base : Option Addr) (n : Nat) (h0 : 0 < n) (hn : n ≤ 1000000) : Calls Tryz.prog 130 #[.slice base 0 0,.int .i64 n] w fun e w' =>
    e = .returned (.slice (some ⟨w.heap.size,0,none⟩) 0 (grownCap w n 0 3)) ∧ w' = w.drew.alloc (.cells (Builtin.zeroCells #[.int .i64 0] n ++ Builtin.zeroCells #[.int .i64 0] (grownCap w n 0 3 - n)) 3) := by
  have hrz : ∀ ty,(Builtin.append_ #[37,3] ty #[.slice base 0 0,.int .i64 n]).run Tryz.prog w = .ok (.slice (some ⟨w.heap.size,0,none⟩) n (grownCap w n 0 3)) (w.drew.alloc (.cells (Builtin.zeroCells #[.int .i64 0] n ++ Builtin.zeroCells #[.int .i64 0] (grownCap w n 0 3 - n)) 3)) := fun ty => by
    have hi : Tryz.prog.info? 3 = some Tryz.t3 := by kernel_rfl
    have hz : (Tryz.t3).zero = some (.int .i64 0) := rfl
    have h8 : (Tryz.t3).bytes = 8 := rfl
    have hs : (Tryz.t3).size = 1 := rfl
    have hg := growslice_fits (bytes := 8) (show 0 < n by omega) (by omega)
    have h := Lib.run_append_grow_zeros w 37 3 ty 3 Tryz.t3 (.int .i64 0) .i64 .i64 Tryz.underlying37 Tryz.underlying3 hi hz base 0 0 [] (by cases base <;> simp [Builtin.firstCells,loadCells,loadCellsFrom]) n h0 (by rw [hs]; decide) (by omega) (by omega) (by rw [h8]; omega) (by rw [h8,Nat.zero_add]; omega)
    simp only [List.append_toArray,Array.empty_append,Nat.zero_add] at h
    simpa [Value.cells] using h
  have hGn : n ≤ grownCap w n 0 3 := grownCap_ge w _ _ _
  obtain ⟨G,hG⟩ : ∃ G,G = grownCap w n 0 3 := ⟨_,rfl⟩
  rw [← hG] at hrz hGn ⊢
  have hG63 : G ≤ 9223372036854775807 := by
    have := grownCap_le_maxLen w n 0 3 (by unfold maxLen; omega)
    rw [← hG] at this
    unfold maxLen at this
    omega
  clear hG
  have h1 : ¬ ((n : Int) < 0) := by omega
  have h4 : (n : Int) > 0 := by omega
  go_enter Tryz.func130,Tryz.ntmps130
  cases base with
  | none =>
    go_wp2_with (at_builtin; refine Lib.wpList_append_run _ rfl _ _ _ _ rfl _ _ rfl rfl _ _ (hrz _) ?_)
    all_goals (go_ret; exact ⟨rfl,rfl⟩)
  | some a =>
    obtain ⟨ab,ao,asp⟩ := a
    go_wp2_with (at_builtin; refine Lib.wpList_append_run _ rfl _ _ _ _ rfl _ _ rfl rfl _ _ (hrz _) ?_)
    all_goals (go_ret; exact ⟨rfl,rfl⟩)
theorem heap_alloc_size' (w : World) (o : Obj) : (w.drew.alloc o).heap.size = w.heap.size + 1 := by
  show (w.heap.push o).size = _
  simp
theorem grow_c (n : Nat) (hn : n ≤ 1000000) (m : Mem) : ACall Tryz.prog 130 [.mslice 0 0 0 0,.int .i64 n] m fun r m' => (n = 0 ∧ r = .mslice 0 0 0 0 ∧ m' = m) ∨
    (0 < n ∧ ∃ b cap tail,r = .mslice b 0 0 cap ∧ n ≤ cap ∧ cap ≤ maxLen ∧ tail.length = cap ∧ m b = none ∧ m' = upd m b (some (.cells tail))) := by
  refine ⟨fun args w => Tryz.call130 args w,fun G w vs hi hm hr => ?_⟩
  obtain ⟨v1,vs,rfl,r1,hr⟩ := Reps.cons_inv hr
  obtain ⟨v2,vs,rfl,r2,hr⟩ := Reps.cons_inv hr
  obtain rfl := Reps.nil_inv hr
  obtain rfl := rep_int r2
  obtain ⟨base,rfl⟩ : ∃ base,v1 = .slice base 0 0 := by
    rcases rep_mslice r1 with e | ⟨_,_,e⟩
    · exact ⟨_,e⟩
    · exact ⟨_,e⟩
  by_cases h0 : n = 0
  · subst h0
    refine (grow_zero w base).mono ?_
    rintro e w' ⟨rfl,rfl⟩
    exact ⟨_,.mslice 0 0 0 0,m,G,rfl,Ext.refl _ _,hi,hm,r1,.inl ⟨rfl,rfl,rfl⟩⟩
  · refine (grow_some w base n (by omega) hn).mono ?_
    rintro e w' ⟨rfl,rfl⟩
    obtain ⟨x1,i1⟩ := drew_grow hi
    have hc0 : G.com w.heap.size = 0 := hi.com_new (Nat.le_refl _)
    generalize hcs : Builtin.zeroCells #[.int .i64 0] n ++ Builtin.zeroCells #[.int .i64 0] (grownCap w n 0 3 - n) = cs
    have hsz : cs.size = grownCap w n 0 3 := by
      have h2 : n ≤ grownCap w n 0 3 := grownCap_ge w _ _ _
      rw [← hcs,Array.size_append]
      rw [size_zeroCells,size_zeroCells]
      simp only [List.size_toArray,List.length_cons,List.length_nil]
      omega
    have h2 : n ≤ grownCap w n 0 3 := grownCap_ge w _ _ _
    have h3 := grownCap_le_maxLen w n 0 3 (by unfold maxLen; omega)
    obtain ⟨x2,i2⟩ := alloc_grow i1 (.cells cs 3) 0 (fun h => absurd rfl h)
    rw [setCom_zero G (by exact hc0)] at x2 i2
    have hn : m w.heap.size = none := by
      cases hm0 : m w.heap.size with
      | none => rfl
      | some x => have := (hm _ x hm0).2.1; omega
    refine ⟨_,.mslice w.heap.size 0 0 (grownCap w n 0 3),upd m w.heap.size (some (.cells (List.replicate cs.toList.length .top))),G,rfl,x1.trans x2,i2,fun k x hk => ?_,.mslice _ _ _ _,.inr ⟨by omega,_,_,_,rfl,h2,h3,by simp [hsz],hn,rfl⟩⟩
    by_cases e : k = w.heap.size
    · subst e
      rw [upd_same] at hk
      cases hk
      exact ⟨hi.below.size,(by rw [heap_alloc_size']; exact Nat.lt_succ_self _),fun hl => absurd (hi.lock _ hl) (Nat.lt_irrefl _),hc0,cs.toList,3,by simpa using heap_alloc_new w.drew (.cells cs 3),reps_top _⟩
    · rw [upd_ne _ _ e] at hk
      obtain ⟨b1,b2,b3,b4,b5⟩ := hm k x hk
      exact ⟨b1,Nat.lt_of_lt_of_le b2 (x1.trans x2).size,b3,b4,b5.ext (x1.trans x2) (heap_alloc_old w.drew _ e)⟩
theorem updUndo {m : Mem} {b : Nat} (e : m b = none) (x : Option Box) : upd (upd m b x) b none = m := by
  funext k
  by_cases q : k = b
  · subst q; rw [upd_same,e]
  · rw [upd_ne _ _ q,upd_ne _ _ q]
theorem concat_c (p : List (List Int)) (hp : p.flatten.length ≤ 1000) (m : Mem) : ACall Tryz.prog 122 [rowsA p] m fun r m' => r = ints p.flatten ∧ m' = m := by
  refine ACall.weak (ACall.forget ?_)
  have hpre : ∀ k,(p.take k).flatten.length ≤ 1000 := fun k => by
    have : p.flatten = (p.take k).flatten ++ (p.drop k).flatten := by rw [← List.flatten_append,List.take_append_drop]
    rw [this,List.length_append] at hp
    omega
  have hsn : ∀ k,k < p.length → (p.take (k + 1)).flatten = (p.take k).flatten ++ p[k]! := fun k hk => by rw [getD_any hk,List.take_succ_eq_append_getElem hk,List.flatten_append]; simp
  simp only [rowsA]
  refine acall_len Tryz.call122 fun hlen => ?_; (refine acall_intro (E := envC (modeAt [] []) false [9,13,15]) (envCOk _ _ _) rfl Tryz.func122 rfl Tryz.call122 (by kernel_rfl) (by simp [Tryz.ntmps122]) ?_; simp only [Tryz.f122];  simp(maxSteps:=9^9)only[↓VX,VQ,seval])
  simp only [lenOk_cons,lenOk_nil,List.length_map,and_true,maxLen_eq] at hlen
  repeat'(first|intro _|apply And.intro)
  refine aloop (envCOk _ _ _) (fun k : Nat => ⟨[(0,.v (.slice 1 (p.map ints))),(3,.v (.int .i64 (p.take k).flatten.length)),(9,.v (.slice 1 (p.map ints))),(10,.v (.int .i64 p.length)),(11,.v (.int .i64 k))],[],[],m⟩)
    (fun k => k ≤ p.length) (fun k => p.length - k) 0 (fun _ => rfl) (by simp) (by (simp only [FE,↓FP,seval]); try simp) ?_
  rintro k hk
  by_cases hlt : k < p.length
  · have h1 := hsn k hlt
    have h2 := hpre k
    have h3 := hpre (k + 1)
    rw [h1,List.length_append] at h3
    simp(maxSteps:=9^9)only[↓VX,VQ,seval,↓ixInts]
    repeat'(first|intro _|apply And.intro)
    all_goals try first|omega|(simp only[LL];omega)|exact nlC (by decide) _|exact nbC rfl
    refine ⟨k + 1,by omega,by dsimp only; omega,?_⟩
    (simp only [FE,↓FP,seval])
    rw [h1,List.length_append]
    simp
  · have hke : k = p.length := by omega
    subst hke
    simp(maxSteps:=9^9)only[↓VX,VQ,seval]
    repeat'(first|intro _|apply And.intro)
    all_goals try first|omega|(simp only[LL];omega)|exact nlC (by decide) _|exact nbC rfl
    refine acut_at_k 1 (envCOk _ _ _) (V := vcCallN _) (fun h hd _ _ _ hi hf hs _ _ _ hn => vcCallN_sound (envCOk _ _ _) h hd hi hf hs hn) rfl rfl (fun s : Nat × Nat × Mem => ⟨[(0,.v (.slice 1 (p.map ints))),(6,.v (.mslice s.1 0 0 s.2.1))],[],[],s.2.2⟩)
      (fun s => (p.flatten.length = 0 ∧ s.1 = 0 ∧ s.2.1 = 0 ∧ s.2.2 = m) ∨ (0 < p.flatten.length ∧ ∃ tail : List AV,p.flatten.length ≤ s.2.1 ∧ s.2.1 ≤ maxLen ∧ tail.length = s.2.1 ∧ m s.1 = none ∧ s.2.2 = upd m s.1 (some (.cells tail)))) (fun _ => rfl) ?_ ?_
    · show vcOps _ _ (_ :: _) _ _
      have hg := grow_c p.flatten.length (by omega) m
      simp only [List.take_length]
      simp(maxSteps:=9^9)only[↓VX,VQ,seval,List.take_succ_cons,List.take_zero,vcCallN]
      refine ACall.told hg ?_
      rintro r m1 (⟨h0,rfl,rfl⟩ | ⟨h0,b,cap,tail,rfl,h1,h2,h3,h4,rfl⟩)
      · simp(maxSteps:=9^9)only[↓VX,VQ,seval]
        exact ⟨(0,0,m1),.inl ⟨h0,rfl,rfl,rfl⟩,by (simp only [FE,↓FP,seval])⟩
      · simp(maxSteps:=9^9)only[↓VX,VQ,seval]
        exact ⟨(b,cap,upd m b (some (.cells tail))),.inr ⟨h0,tail,h1,h2,h3,h4,rfl⟩,by (simp only [FE,↓FP,seval])⟩
    rintro ⟨b,cap,m0⟩ hJ
    dsimp only at hJ
    simp(maxSteps:=9^9)only[↓VX,VQ,seval]
    repeat'(first|intro _|apply And.intro)
    all_goals try first|omega|(simp only[LL];omega)|exact nlC (by decide) _|exact nbC rfl
    refine aloop (envCOk _ _ _) (fun s : Nat × Mem => ⟨[(6,.v (.mslice b 0 (p.take s.1).flatten.length cap)),(25,.v (.slice 1 (p.map ints))),(26,.v (.int .i64 p.length)),(27,.v (.int .i64 s.1))],[],[],s.2⟩)
      (fun s => s.1 ≤ p.length ∧ ((p.flatten.length = 0 ∧ b = 0 ∧ cap = 0 ∧ s.2 = m) ∨ (0 < p.flatten.length ∧ ∃ tail : List AV,p.flatten.length ≤ cap ∧ cap ≤ maxLen ∧ tail.length = cap - (p.take s.1).flatten.length ∧ m b = none ∧ s.2 = upd m b (some (.cells ((((p.take s.1).flatten.map (AV.int .i64)).map AV.cells).flatten ++ tail))))))
      (fun s => p.length - s.1) (0,m0) (fun _ => rfl) ⟨by dsimp only; omega,by simpa using hJ⟩ (by (simp only [FE,↓FP,seval]); try simp) ?_
    rintro ⟨k,m1⟩ ⟨hk,hJ1⟩
    dsimp only at hk hJ1
    have hle : (p.take k).flatten.length ≤ p.flatten.length := by
      have : p.flatten = (p.take k).flatten ++ (p.drop k).flatten := by rw [← List.flatten_append,List.take_append_drop]
      rw [this,List.length_append]
      omega
    by_cases hlt : k < p.length
    · have h1 := hsn k hlt
      have h2 := hpre (k + 1)
      have hle1 : (p.take (k + 1)).flatten.length ≤ p.flatten.length := by
        have : p.flatten = (p.take (k + 1)).flatten ++ (p.drop (k + 1)).flatten := by rw [← List.flatten_append,List.take_append_drop]
        rw [this,List.length_append]
        omega
      rw [h1] at h2 hle1
      rw [List.length_append] at h2 hle1
      have hfl : ∀ l : List Int,((l.map (AV.int .i64)).map AV.cells).flatten = l.map (AV.int .i64) := fun l => by
        induction l with
        | nil => rfl
        | cons x l ih => simp only [List.map_cons,List.flatten_cons,ih]; rfl
      simp(maxSteps:=9^9)only[↓VX,VQ,seval,↓ixInts]
      repeat'(first|intro _|apply And.intro)
      all_goals try first|omega|(simp only[LL];omega)|exact nlC (by decide) _|exact nbC rfl
      by_cases hr : p[k]! = []
      · have h5 : (p.take (k + 1)).flatten = (p.take k).flatten := by rw [h1,hr,List.append_nil]
        have hlc : (p.take k).flatten.length ≤ cap := by rcases hJ1 with ⟨q,_⟩ | ⟨_,_,q,_⟩ <;> omega
        refine acut_at_k 2 (envCOk _ _ _) (V := vcAppZ _) (fun h hd _ _ _ hi hf hs _ _ _ hn => vcAppZ_sound (envCOk _ _ _) h hd hi hf hs hn) rfl rfl (fun _ : Unit => ⟨[(6,.v (.mslice b 0 (p.take k).flatten.length cap)),(25,.v (.slice 1 (p.map ints))),(26,.v (.int .i64 p.length)),(27,.v (.int .i64 k))],[],[],m1⟩) (fun _ => True) (fun _ => rfl) ?_ ?_
        · show vcOps _ _ (_ :: _) _ _
          rw [hr]
          simp(maxSteps:=9^9)only[↓VX,VQ,seval,List.take_succ_cons,List.take_zero,vcAppZ,List.map_nil]
          exact ⟨hlc,(),by (simp only [FE,↓FP,seval])⟩
        rintro _ _
        simp(maxSteps:=9^9)only[↓VX,VQ,seval]
        repeat'(first|intro _|apply And.intro)
        all_goals try first|omega|(simp only[LL];omega)|exact nlC (by decide) _|exact nbC rfl
        rw [← h5] at hJ1
        refine ⟨(k + 1,m1),⟨by dsimp only; omega,hJ1⟩,by dsimp only; omega,?_⟩
        (simp only [FE,↓FP,seval])
        rw [h5]
        simp
      · have hpos : 0 < (p[k]!).length := List.length_pos_iff.2 hr
        rcases hJ1 with ⟨q,_⟩ | ⟨h0,tail,j1,j2,j3,j4,rfl⟩
        · omega
        refine acut_at_k 2 (envCOk _ _ _) (V := vcAppG _) (fun h hd _ _ _ hi hf hs _ _ _ hn => vcAppG_sound (envCOk _ _ _) h hd hi hf hs hn) rfl rfl (fun _ : Unit => ⟨[(6,.v (.mslice b 0 (p.take (k + 1)).flatten.length cap)),(25,.v (.slice 1 (p.map ints))),(26,.v (.int .i64 p.length)),(27,.v (.int .i64 k))],[],[],upd m b (some (.cells ((((p.take (k + 1)).flatten.map (AV.int .i64)).map AV.cells).flatten ++ tail.drop (p[k]!).length)))⟩) (fun _ => True) (fun _ => rfl) ?_ ?_
        · show vcOps _ _ (_ :: _) _ _
          simp(maxSteps:=9^9)only[↓VX,VQ,seval,List.take_succ_cons,List.take_zero,vcAppG,vcAppE]
          refine ⟨(p.take k).flatten.map (AV.int .i64),tail,.inr rfl,⟨by rw [List.length_map],by omega,j2,j3,?_,by omega,?_⟩,fun q => ?_,fun q => ?_⟩
          · intro x hx
            obtain ⟨q,_,rfl⟩ := List.mem_map.1 hx
            exact ⟨rfl,rfl⟩
          · rw [List.length_map]; omega
          · refine ⟨(),?_⟩
            (simp only [FE,↓FP,seval])
            rw [List.length_map,h1,List.length_append,List.map_append]
            refine ⟨rfl,?_⟩
            rw [upd_upd]
            simp only [List.map_append,Nat.mul_one]
          · rw [List.length_map] at q; omega
        rintro _ _
        simp(maxSteps:=9^9)only[↓VX,VQ,seval]
        repeat'(first|intro _|apply And.intro)
        all_goals try first|omega|(simp only[LL];omega)|exact nlC (by decide) _|exact nbC rfl
        refine ⟨(k + 1,upd m b (some (.cells ((((p.take (k + 1)).flatten.map (AV.int .i64)).map AV.cells).flatten ++ tail.drop (p[k]!).length)))),⟨by dsimp only; omega,.inr ⟨h0,tail.drop (p[k]!).length,j1,j2,?_,j4,rfl⟩⟩,by dsimp only; omega,?_⟩
        · rw [List.length_drop,h1,List.length_append]; omega
        (simp only [FE,↓FP,seval])
        simp
    · have hke : k = p.length := by omega
      subst hke
      rw [List.take_length] at hJ1
      simp(maxSteps:=9^9)only[↓VX,VQ,seval]
      repeat'(first|intro _|apply And.intro)
      all_goals try first|omega|(simp only[LL];omega)|exact nlC (by decide) _|exact nbC rfl
      rcases hJ1 with ⟨h0,rfl,rfl,rfl⟩ | ⟨h0,tail,h1,h2,h3,h4,rfl⟩
      · refine acut (envCOk _ _ _) (fun _ : Unit => ⟨[(2,.v (.mslice 0 0 (List.take p.length p).flatten.length 0))],[],[],m1⟩) (fun _ => True) (fun _ => rfl) ?_ ?_
        · show vcOps _ _ (_ :: _) _ _
          simp(maxSteps:=9^9)only[↓VX,VQ,seval]
          exact ⟨(),by (simp only [FE,↓FP,seval])⟩
        rintro _ _
        simp(maxSteps:=9^9)only[↓VX,VQ,seval]
        rw [List.take_length,h0,List.eq_nil_of_length_eq_zero h0]
        exact ⟨m1,fun _ _ h => h,ints [],fun _ _ _ h => weak_nil (by decide) h,rfl,rfl⟩
      · refine acut_melt (envCOk _ _ _) (fun _ : Unit => ⟨[(2,.v (ints p.flatten))],[],[],m⟩) (fun _ => True) (fun _ => b) (fun _ => 1) (fun _ => p.flatten.map (AV.int .i64)) (fun _ => tail) (fun _ => rfl) ?_ ?_
        · show vcOps _ _ (_ :: _) _ _
          simp(maxSteps:=9^9)only[↓VX,VQ,seval]
          refine ⟨(),⟨_,rfl,?_,?_⟩,?_⟩
          · rw [upd_same]
          · intro e he
            obtain ⟨q,_,rfl⟩ := List.mem_map.1 he
            exact ⟨rfl,rfl⟩
          · simp only [Fits,fitsV,fitsO,fitsL,St.melt,↓upd,↓lookV,↓lookO,↓lookL,Nat.reduceEqDiff,↓reduceIte,ints,and_true,true_and,Option.some.injEq,meltV,meltA,Option.map_some,List.map_cons,List.map_nil]
            rw [List.take_length,if_pos ⟨by rw [List.length_map],by omega,h2⟩]
            exact ⟨rfl,updUndo h4 _⟩
        rintro _ _
        simp(maxSteps:=9^9)only[↓VX,VQ,seval]
        exact ⟨m,fun _ _ h => h,ints p.flatten,fun _ _ _ h => h,rfl,rfl⟩
theorem eachL_any (f : Int → Bool) (w : Nat) : ∀ (b l : List Int),eachL (fun _ c _ => f c) w b l = l.any f
  | _,[] => rfl
  | b,c :: l => by
    show (f c || eachL _ w (b ++ [c]) l) = _
    rw [eachL_any f w]; rfl
theorem eachP_any (f : Int → Bool) : ∀ (w : Nat) (b : List Int) (p : List (List Int)),eachP (fun _ c _ => f c) w b p = p.any fun l => l.any f
  | _,_,[] => rfl
  | w,b,l :: p => by
    show (eachL _ w b l || eachP _ (w + 1) (b ++ l) p) = _
    rw [eachL_any,eachP_any f]; rfl
theorem eachL_twice (w : Nat) : ∀ (l b : List Int),b.Nodup → eachL (fun _ c b => decide (c ∈ b)) w b l = decide (¬ (b ++ l).Nodup)
  | [],b,h => by
    rw [List.append_nil]
    show false = _
    exact (decide_eq_false (fun q => q h)).symm
  | c :: l,b,h => by
    show (decide (c ∈ b) || eachL _ w (b ++ [c]) l) = _
    by_cases q : c ∈ b
    · rw [decide_eq_true q,Bool.true_or]
      refine (decide_eq_true (p := ¬ (b ++ c :: l).Nodup) fun k => ?_).symm
      have := (List.nodup_append.1 k).2.2 c q c (by simp)
      exact this rfl
    · have h2 : (b ++ [c]).Nodup := by
        refine List.nodup_append.2 ⟨h,by simp,fun x hx y hy e => ?_⟩
        rw [List.mem_singleton] at hy
        subst hy; subst e; exact q hx
      rw [decide_eq_false q,Bool.false_or,eachL_twice w l _ h2,List.append_assoc]
      rfl
theorem eachP_twice : ∀ (p : List (List Int)) (w : Nat) (b : List Int),b.Nodup → eachP (fun _ c b => decide (c ∈ b)) w b p = decide (¬ (b ++ p.flatten).Nodup)
  | [],w,b,h => by
    rw [List.flatten_nil,List.append_nil]
    show false = _
    exact (decide_eq_false (fun q => q h)).symm
  | l :: p,w,b,h => by
    show (eachL _ w b l || eachP _ (w + 1) (b ++ l) p) = _
    rw [eachL_twice w l b h,List.flatten_cons,← List.append_assoc]
    by_cases q : (b ++ l).Nodup
    · rw [decide_eq_false (fun k => k q),Bool.false_or,eachP_twice p (w + 1) _ q]
    · rw [decide_eq_true q,Bool.true_or]
      exact (decide_eq_true (p := ¬ (b ++ l ++ p.flatten).Nodup) fun k => q (List.nodup_append.1 k).1).symm
theorem eachL_can (h : RHall) (ws w : Nat) : ∀ (b l : List Int),eachL (fun w c _ => !canD h ws w c.toNat) w b l = l.any fun c => !canD h ws w c.toNat
  | _,[] => rfl
  | b,c :: l => by
    show (_ || eachL _ w (b ++ [c]) l) = _
    rw [eachL_can h ws w]; rfl
theorem eachP_can (h : RHall) (ws : Nat) : ∀ (p : List (List Int)) (w : Nat) (b : List Int),eachP (fun w c _ => !canD h ws w c.toNat) w b p = (List.range p.length).any fun i => (p[i]!).any fun c => !canD h ws (w + i) c.toNat
  | [],_,_ => rfl
  | l :: p,w,b => by
    show (eachL _ w b l || eachP _ (w + 1) (b ++ l) p) = _
    rw [eachL_can,eachP_can h ws p,List.length_cons,List.range_succ_eq_map,List.any_cons,List.any_map]
    congr 1
    refine List.any_congr rfl fun i => ?_
    show _ = ((l :: p)[i + 1]!).any fun c => !canD h ws (w + (i + 1)) c.toNat
    rw [show w + 1 + i = w + (i + 1) by omega]
    rfl
theorem flaw1_c (h : RHall) (hd : DOk h) (ws cs km hb : Nat) (p : List (List Int)) (m : Mem) (hm : m hb = some (.cells (hallC h ws cs km))) :
    ACall Tryz.prog 112 [.ptr hb 0,rowsA p] m (fun r m' => r = .bool (decide (p.length ≠ h.wri.length)) ∧ m' = m) := by
  have hn := hd.n
  simp only [hallC,hallL,rowsA,List.cons_append,List.nil_append] at hm ⊢
  (refine acall_len Tryz.call112 fun hlen => ?_; refine acall_intro (E := env fun _ => .imm) (envOk _) rfl Tryz.func112 rfl Tryz.call112 (by kernel_rfl) (by simp [Tryz.ntmps112]) ?_; simp only [Tryz.f112];  simp(maxSteps:=9^9)only[↓VX,VQ,seval])
  simp only [lenOk_cons,lenOk_nil,List.length_map,and_true,maxLen_eq] at hlen
  simp(maxSteps:=9^9)only[↓VX,VQ,seval,hm]
  repeat'(first|intro _|apply And.intro)
  all_goals try first|omega|(simp only[LL];omega)|exact nlC (by decide) _|exact nbC rfl
  congr 1
  rw [decide_eq_decide]
  omega
theorem flaw2a_c (h : RHall) (hd : DOk h) (ws cs km hb : Nat) (w : Nat) (c : Int) (b : List Int) (m : Mem) (hm : m hb = some (.cells (hallC h ws cs km))) :
    ACall Tryz.prog 115 [.int .i64 w,.int .i64 c,ints b,.eptr [.ptr hb 0]] m (fun r m' => r = .bool (offP 0 ((h.cus.length : Int) - 1) c) ∧ m' = m) := by
  have hn := hd.m
  have hb1 := beyondD_c 0 ((h.cus.length : Int) - 1) [c]
  simp only [hallC,hallL,List.cons_append,List.nil_append] at hm ⊢
  (refine acall_intro (E := env fun _ => .imm) (envOk _) rfl Tryz.func115 rfl Tryz.call115 (by kernel_rfl) (by simp [Tryz.ntmps115]) ?_; simp only [Tryz.f115];  simp(maxSteps:=9^9)only[↓VX,VQ,seval])
  simp(maxSteps:=9^9)only[↓VX,VQ,seval,hm]
  repeat'(first|intro _|apply And.intro)
  all_goals try first|omega|(simp only[LL];omega)|exact nlC (by decide) _|exact nbC rfl
  simp only [ints,List.map_cons,List.map_nil,List.any_cons,List.any_nil,Bool.or_false] at hb1
  ((refine ACall.pure (hb1) ?_; try simp(maxSteps:=9^9)only[↓VX,VQ,seval]); try simp(maxSteps:=9^9)only[↓VX,VQ,seval,GL])
  repeat'(first|intro _|apply And.intro)
  all_goals try first|omega|(simp only[LL];omega)|exact nlC (by decide) _|exact nbC rfl
theorem flaw2_c (h : RHall) (hd : DOk h) (ws cs km hb : Nat) (p : List (List Int)) (hp : p.flatten.length ≤ 1000) (m : Mem) (hm : m hb = some (.cells (hallC h ws cs km))) :
    ACall Tryz.prog 113 [.ptr hb 0,rowsA p] m (fun r m' => r = .bool (noneP h p) ∧ m' = m) := by
  have he := each_c 115 [.eptr [.ptr hb 0]] p hp (fun _ c _ => offP 0 ((h.cus.length : Int) - 1) c) m (fun w c b _ _ => flaw2a_c h hd ws cs km hb w c b m hm)
  rw [eachP_any] at he
  change ACall _ _ _ _ (fun r m' => r = .bool (noneP h p) ∧ m' = m) at he
  simp only [rowsA] at he ⊢
  (refine acall_intro (E := env fun _ => .imm) (envOk _) rfl Tryz.func113 rfl Tryz.call113 (by kernel_rfl) (by simp [Tryz.ntmps113]) ?_; simp only [Tryz.f113];  simp(maxSteps:=9^9)only[↓VX,VQ,seval])
  repeat'(first|intro _|apply And.intro)
  refine ACall.told he ?_
  rintro r m1 ⟨rfl,rfl⟩
  simp(maxSteps:=9^9)only[↓VX,VQ,seval]
  repeat'(first|intro _|apply And.intro)
  all_goals try first|omega|(simp only[LL];omega)|exact nlC (by decide) _|exact nbC rfl
theorem flaw3a_c (w : Nat) (c : Int) (b : List Int) : PCall Tryz.prog 117 [.int .i64 w,.int .i64 c,ints b] (.bool (decide (c ∈ b))) := by
  intro m
  have h1 := containsZ_c b c
  simp only [ints] at h1 ⊢
  (refine acall_intro (E := env fun _ => .imm) (envOk _) rfl Tryz.func117 rfl Tryz.call117 (by kernel_rfl) (by simp [Tryz.ntmps117]) ?_; simp only [Tryz.f117];  simp(maxSteps:=9^9)only[↓VX,VQ,seval])
  ((refine ACall.pure (h1) ?_; try simp(maxSteps:=9^9)only[↓VX,VQ,seval]); try simp(maxSteps:=9^9)only[↓VX,VQ,seval,GL])
theorem flaw3_c (hb : Nat) (p : List (List Int)) (hp : p.flatten.length ≤ 1000) (m : Mem) :
    ACall Tryz.prog 116 [.ptr hb 0,rowsA p] m (fun r m' => r = .bool (twiceP p) ∧ m' = m) := by
  have he := each_c 117 [] p hp (fun _ c b => decide (c ∈ b)) m (fun w c b _ _ => by
    rw [List.append_nil]; exact flaw3a_c w c b m)
  rw [eachP_twice p 0 [] List.nodup_nil,List.nil_append] at he
  change ACall _ _ _ _ (fun r m' => r = .bool (twiceP p) ∧ m' = m) at he
  simp only [rowsA] at he ⊢
  (refine acall_intro (E := env fun _ => .imm) (envOk _) rfl Tryz.func116 rfl Tryz.call116 (by kernel_rfl) (by simp [Tryz.ntmps116]) ?_; simp only [Tryz.f116];  simp(maxSteps:=9^9)only[↓VX,VQ,seval])
  repeat'(first|intro _|apply And.intro)
  refine ACall.told he ?_
  rintro r m1 ⟨rfl,rfl⟩
  simp(maxSteps:=9^9)only[↓VX,VQ,seval]
  repeat'(first|intro _|apply And.intro)
  all_goals try first|omega|(simp only[LL];omega)|exact nlC (by decide) _|exact nbC rfl
theorem flaw4a_c (h : RHall) (hd : DOk h) (ws cs km hb : Nat) (hws : ws < 8) (w c : Nat) (b : List Int) (hw : w < h.wri.length) (hc : c < h.cus.length) (m : Mem) (hm : m hb = some (.cells (hallC h ws cs km))) :
    ACall Tryz.prog 120 [.int .i64 w,.int .i64 c,ints b,.eptr [.ptr hb 0]] m (fun r m' => r = .bool (!canD h ws w c) ∧ m' = m) := by
  have h1 := dcan_c h hd ws cs km hb hws w c hw hc m hm
  (refine acall_intro (E := env fun _ => .imm) (envOk _) rfl Tryz.func120 rfl Tryz.call120 (by kernel_rfl) (by simp [Tryz.ntmps120]) ?_; simp only [Tryz.f120];  simp(maxSteps:=9^9)only[↓VX,VQ,seval])
  repeat'(first|intro _|apply And.intro)
  refine ACall.told h1 ?_
  rintro r m1 ⟨rfl,rfl⟩
  simp(maxSteps:=9^9)only[↓VX,VQ,seval]
  repeat'(first|intro _|apply And.intro)
  all_goals try first|omega|(simp only[LL];omega)|exact nlC (by decide) _|exact nbC rfl
theorem flaw4_c (h : RHall) (hd : DOk h) (ws cs km hb : Nat) (hws : ws < 8) (p : List (List Int)) (hp : p.flatten.length ≤ 1000) (hl : p.length = h.wri.length) (hn : noneP h p = false) (m : Mem) (hm : m hb = some (.cells (hallC h ws cs km))) :
    ACall Tryz.prog 119 [.ptr hb 0,rowsA p] m (fun r m' => r = .bool (otherP h ws p) ∧ m' = m) := by
  have he := each_c 120 [.eptr [.ptr hb 0]] p hp (fun w c _ => !canD h ws w c.toNat) m (fun w c b hw hc => by
    unfold noneP at hn
    rw [List.any_eq_false] at hn
    have h2 := hn (p[w]!) (by rw [getD_any hw]; exact List.getElem_mem hw)
    rw [Bool.not_eq_true,List.any_eq_false] at h2
    have h3 := h2 c hc
    rw [Bool.not_eq_true,offP_false] at h3
    have := flaw4a_c h hd ws cs km hb hws w c.toNat b (by omega) (by omega) m hm
    rwa [Int.toNat_of_nonneg h3.1] at this)
  rw [eachP_can] at he
  simp only [Nat.zero_add] at he
  change ACall _ _ _ _ (fun r m' => r = .bool (otherP h ws p) ∧ m' = m) at he
  simp only [rowsA] at he ⊢
  (refine acall_intro (E := env fun _ => .imm) (envOk _) rfl Tryz.func119 rfl Tryz.call119 (by kernel_rfl) (by simp [Tryz.ntmps119]) ?_; simp only [Tryz.f119];  simp(maxSteps:=9^9)only[↓VX,VQ,seval])
  repeat'(first|intro _|apply And.intro)
  refine ACall.told he ?_
  rintro r m1 ⟨rfl,rfl⟩
  simp(maxSteps:=9^9)only[↓VX,VQ,seval]
  repeat'(first|intro _|apply And.intro)
  all_goals try first|omega|(simp only[LL];omega)|exact nlC (by decide) _|exact nbC rfl
theorem flaw5_c (h : RHall) (hd : DOk h) (ws cs km hb : Nat) (p : List (List Int)) (hp : p.flatten.length ≤ 1000) (m : Mem) (hm : m hb = some (.cells (hallC h ws cs km))) :
    ACall Tryz.prog 121 [.ptr hb 0,rowsA p] m (fun r m' => r = .bool (decide (p.flatten.length < h.cus.length)) ∧ m' = m) := by
  have h1 : PCall Tryz.prog 122 [rowsA p] (ints p.flatten) := concat_c p hp
  have hn := hd.m
  simp only [hallC,hallL,rowsA,ints,List.cons_append,List.nil_append] at hm h1 ⊢
  (refine acall_intro (E := env fun _ => .imm) (envOk _) rfl Tryz.func121 rfl Tryz.call121 (by kernel_rfl) (by simp [Tryz.ntmps121]) ?_; simp only [Tryz.f121];  simp(maxSteps:=9^9)only[↓VX,VQ,seval])
  (refine adraw (by first | exact envOk _ | exact envCOk _ _ _) mixed [⟨false,false,0⟩,⟨false,false,0⟩,⟨false,false,0⟩,⟨false,false,0⟩,⟨false,false,0⟩,⟨false,false,0⟩,⟨false,false,0⟩,⟨false,false,0⟩,⟨false,false,0⟩,⟨false,false,0⟩,⟨false,false,0⟩] (by kernel_rfl) ?_; show vcOpsD _ _ _ (_ :: _) _ _)
  simp(maxSteps:=9^9)only[↓VX,VQ,seval,hm]
  (refine ⟨_,.inl (h1),?_⟩; try simp(maxSteps:=9^9)only[↓VX,VQ,seval])
  simp(maxSteps:=9^9)only[↓VX,VQ,seval,hm]
  repeat'(first|intro _|apply And.intro)
  congr 1
  rw [decide_eq_decide]
  omega
theorem flaws_c : PCall Tryz.prog 87 [] (.slice 2 [.agg [.int .i64 3,.fn (.func 112) [] []],.agg [.int .i64 4,.fn (.func 113) [] []],.agg [.int .i64 5,.fn (.func 116) [] []],.agg [.int .i64 2,.fn (.func 119) [] []],.agg [.int .i64 8,.fn (.func 121) [] []]]) := by
  intro m
  (refine acall_intro (E := envC (modeAt [] []) false []) (envCOk _ _ _) rfl Tryz.func87 rfl Tryz.call87 (by kernel_rfl) (by simp [Tryz.ntmps87]) ?_; simp only [Tryz.f87];  simp(maxSteps:=9^9)only[↓VX,VQ,seval,buildV,Int.reduceEq])
  try rfl
end Go.Proofs.YteppmjlfpniiaaaGreat.Abs
