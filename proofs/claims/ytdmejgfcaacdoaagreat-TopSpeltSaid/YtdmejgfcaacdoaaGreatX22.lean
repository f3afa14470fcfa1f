/- Lemmas for the statements of this seat (X22): they hold without conditions beyond those that each one states. -/
import Derived.Test.YtdmejgfcaacdoaaGreatX21
/- Contracts: a letter and a shape; laws: numbers of words in rooms. -/
namespace Go.Proofs.YtdmejgfcaacdoaaGreat.Abs
set_option linter.unusedSimpArgs false
set_option maxHeartbeats 4000000
set_option maxRecDepth 100000
open Go Go.RowKit Go.Proofs
theorem fitW_c (b a : ByteArray) : PCall Tryz.prog 112 [.str b,.str a] (.bool (fitW b a)) := by
 intro m
 have hq : (b = ByteArray.empty) = (decide (b = ByteArray.empty) = true) := by simp
 (refine acall_intro (E := env fun _ => .imm) (envOk _) rfl Tryz.func112 rfl Tryz.call112 (by kernel_rfl) (by simp [Tryz.ntmps112]) ?_; simp only [Tryz.f112];  simp(maxSteps:=9^9)only[↓VX,VQ,seval])
 repeat'(first|intro _|apply And.intro)
 all_goals try first|omega|(simp only[LL];omega)|exact nlC (by decide) _|exact nbC rfl
 ·rename_i h0
  have h1 : ¬ b = ByteArray.empty := h0
  unfold fitW
  rw [decide_eq_false h1,Bool.false_or]
 ·rename_i h0
  have h1 : b = ByteArray.empty := Decidable.of_not_not h0
  unfold fitW
  rw [decide_eq_true h1,Bool.true_or]
theorem wfits_len : ∀ {s f : List ByteArray},wfits s f = true → s.length = f.length
 | [],[],_ => rfl
 | [],_ :: _,h => by simp [wfits] at h
 | _ :: _,[],h => by simp [wfits] at h
 | b :: s,a :: f,h => by
  rw [wfits,Bool.and_eq_true] at h
  rw [List.length_cons,List.length_cons,wfits_len h.2]
theorem wfits_false_len {s f : List ByteArray} (h : s.length ≠ f.length) : wfits s f = false := by
 cases q : wfits s f
 ·rfl
 ·exact absurd (wfits_len q) h
theorem wfits_at : ∀ {s f : List ByteArray} {k : Nat},k < s.length → s.length = f.length → fitW s[k]! f[k]! = false → wfits s f = false
 | [],_,_,h,_,_ => by cases h
 | _ :: _,[],_,_,h,_ => by cases h
 | b :: s,a :: f,0,_,_,h => by
  have : fitW b a = false := h
  rw [wfits,this]; rfl
 | b :: s,a :: f,k + 1,h1,h2,h => by
  rw [wfits,wfits_at (k := k) (by simpa using h1) (by simpa using h2) (by simpa using h),Bool.and_false]
theorem wfits_all : ∀ {s f : List ByteArray},s.length = f.length → (∀ k,k < s.length → fitW s[k]! f[k]! = true) → wfits s f = true
 | [],[],_,_ => rfl
 | [],_ :: _,h,_ => by cases h
 | _ :: _,[],h,_ => by cases h
 | b :: s,a :: f,h,hk => by
  rw [wfits,show fitW b a = true from hk 0 (by simp),wfits_all (by simpa using h) (fun k hk' => by simpa using hk (k + 1) (by simpa using hk')),Bool.and_true]
theorem equalW_c (a b : List ByteArray) : PCall Tryz.prog 110 [strs a,strs b,.fn (.func 112) [] []] (.bool (wfits a b)) := by
 intro m
 have hf := fitW_c
 simp only [strs]
 (refine acall_intro (E := env fun _ => .imm) (envOk _) rfl Tryz.func110 rfl Tryz.call110 (by kernel_rfl) (by simp [Tryz.ntmps110]) ?_; simp only [Tryz.f110];  simp(maxSteps:=9^9)only[↓VX,VQ,seval])
 repeat'(first|intro _|apply And.intro)
 all_goals try first|omega|(simp only[LL];omega)|exact nlC (by decide) _|exact nbC rfl
 ·rw [wfits_false_len (by omega)]
 have hl : a.length = b.length := by omega
 refine aloop (envOk _) (fun k : Nat => ⟨[(1,.v (.slice 1 (b.map AV.str))),(2,.v (.fn (.func 112) [] [])),(15,.v (.slice 1 (a.map AV.str))),(16,.v (.int .i64 a.length)),(17,.v (.int .i64 k))],[],[],m⟩)
  (fun k => k ≤ a.length ∧ ∀ i < k,fitW a[i]! b[i]! = true) (fun k => a.length - k) 0 (fun _ => rfl) ⟨by simp,fun i hi => absurd hi (Nat.not_lt_zero _)⟩ (by (simp only [FE,↓FP,seval]); try simp) ?_
 rintro k ⟨hk,hp⟩
 simp(maxSteps:=9^9)only[↓VX,VQ,seval]
 repeat'(first|intro _|apply And.intro)
 all_goals try first|omega|(simp only[LL];omega)|exact nlC (by decide) _|exact nbC rfl
 ·have hc := hf a[k]! b[k]!
  obtain ⟨B,hB⟩ : ∃ B,fitW a[k]! b[k]! = B := ⟨_,rfl⟩
  rw [hB] at hc
  (refine ACall.pure (hc) ?_; try simp(maxSteps:=9^9)only[↓VX,VQ,seval])
  repeat'(first|intro _|apply And.intro)
  all_goals try first|omega|(simp only[LL];omega)|exact nlC (by decide) _|exact nbC rfl
  ·rw [wfits_at (k := k) (by omega) hl (by simp_all)]
  ·refine ⟨k + 1,⟨by omega,fun i hi => ?_⟩,by dsimp only; omega,?_⟩
   ·by_cases e : i = k
    ·subst e; simp_all
    ·exact hp i (by omega)
   ·(simp only [FE,↓FP,seval])
    simp
 ·rw [wfits_all hl fun i hi => hp i (by omega)]
theorem upN_mem {lo hi : Int} {n : Nat} (h0 : 0 ≤ lo) (h : n ∈ upN lo hi) : lo ≤ n ∧ (n : Int) ≤ hi := by
 unfold upN at h
 obtain ⟨i,hi,rfl⟩ := List.mem_map.1 h
 rw [List.mem_range] at hi
 omega
theorem upN_nodup (lo hi : Int) : (upN lo hi).Nodup := by
 unfold upN
 refine List.Pairwise.map _ (fun a b h => ?_) List.nodup_range
 omega
theorem counts_mem : ∀ {rs : List (Int × Int)},(∀ r ∈ rs,0 ≤ r.1 ∧ r.1 ≤ r.2 ∧ r.2 ≤ 3) → ∀ x ∈ countsOf rs,x.length = rs.length ∧ ∀ n ∈ x,n ≤ 3
 | [],_,x,hx => by
  rw [countsOf,List.mem_singleton] at hx
  subst hx
  exact ⟨rfl,fun n hn => by cases hn⟩
 | r :: rs,hr,x,hx => by
  rw [countsOf,List.mem_flatMap] at hx
  obtain ⟨n,hn,hx⟩ := hx
  obtain ⟨y,hy,rfl⟩ := List.mem_map.1 hx
  obtain ⟨h1,h2⟩ := counts_mem (fun q hq => hr q (List.mem_cons_of_mem _ hq)) y hy
  obtain ⟨r1,_,r3⟩ := hr r List.mem_cons_self
  have := upN_mem r1 hn
  refine ⟨by rw [List.length_cons,List.length_cons,h1],fun q hq => ?_⟩
  rcases List.mem_cons.1 hq with rfl | hq
  ·omega
  ·exact h2 q hq
theorem counts_nodup : ∀ (rs : List (Int × Int)),(countsOf rs).Nodup
 | [] => by simp [countsOf]
 | r :: rs => by
  rw [countsOf]
  unfold List.Nodup
  rw [List.pairwise_flatMap]
  refine ⟨fun n _ => ?_,?_⟩
  ·exact List.Pairwise.map _ (fun a b h e => h (List.cons.inj e).2) (counts_nodup rs)
  ·refine (upN_nodup r.1 r.2).imp fun {a b} h => ?_
   intro x hx y hy exy
   obtain ⟨u,_,rfl⟩ := List.mem_map.1 hx
   obtain ⟨z,_,e⟩ := List.mem_map.1 hy
   rw [← e] at exy
   exact h (List.cons.inj exy).1
def mny (x : List Nat) (i : Nat) : Int := ((x[i]?.getD 0 : Nat) : Int)
theorem many5 {x : List Nat} (h : x.length ≤ 5) : manyI x = [mny x 0,mny x 1,mny x 2,mny x 3,mny x 4] := by
 match x,h with
 | [],_ => rfl
 | [a],_ => rfl
 | [a,b],_ => rfl
 | [a,b,c],_ => rfl
 | [a,b,c,d],_ => rfl
 | [a,b,c,d,e],_ => rfl
 | _ :: _ :: _ :: _ :: _ :: _ :: _,h => simp at h
theorem many_eq {x y : List Nat} (hx : x.length ≤ 5) (hl : x.length = y.length) : (decide (mny x 0 = mny y 0) && (decide (mny x 1 = mny y 1) && (decide (mny x 2 = mny y 2) && (decide (mny x 3 = mny y 3) && decide (mny x 4 = mny y 4))))) = decide (x = y) := by
 rw [Bool.eq_iff_iff]
 simp only [Bool.and_eq_true,decide_eq_true_eq]
 constructor
 ·rintro ⟨h0,h1,h2,h3,h4⟩
  refine List.ext_getElem hl fun i h1' h2' => ?_
  have key : ∀ j,mny x j = mny y j → ∀ (a : j < x.length) (b : j < y.length),x[j] = y[j] := fun j h a b => by
   unfold mny at h
   rw [List.getElem?_eq_getElem a,List.getElem?_eq_getElem b] at h
   simp only [Option.getD_some] at h
   omega
  have hi : i = 0 ∨ i = 1 ∨ i = 2 ∨ i = 3 ∨ i = 4 := by omega
  rcases hi with rfl | rfl | rfl | rfl | rfl
  ·exact key 0 h0 h1' h2'
  ·exact key 1 h1 h1' h2'
  ·exact key 2 h2 h1' h2'
  ·exact key 3 h3 h1' h2'
  ·exact key 4 h4 h1' h2'
 ·rintro rfl; simp
theorem parts_rooms {ps : List RPart} (h : partsE ps = 0) : ∀ r ∈ roomsOf ps,0 ≤ r.1 ∧ r.1 ≤ r.2 ∧ r.2 ≤ 3 := by
 rw [partsE_zero] at h
 induction ps with
 | nil => intro r hr; cases hr
 | cons p ps ih =>
  intro r hr
  rw [roomsOf] at hr
  have ih := ih fun q hq => h q (List.mem_cons_of_mem _ hq)
  split at hr
  ·rename_i e
   rcases List.mem_cons.1 hr with rfl | hr
   ·have := (partE_words (h p List.mem_cons_self)).2.2 e
    exact ⟨this.1,this.2.1,this.2.2.1⟩
   ·exact ih r hr
  ·exact ih r hr
theorem parts_fit {ps : List RPart} (h : partsE ps = 0) (h5 : ps.length ≤ 5) : partsFit ps := ⟨h5,fun p hp => (partE_words (partsE_zero.1 h p hp)).2.1⟩
def lastM (pre : List (List Nat)) : List Int := match pre.getLast? with
 | some x => manyI x
 | none => [-1,0,0,0,0]
def cellI (l : List Int) : Option Box := some (.cells (l.map (AV.int .i64)))
structure WaysJ (p : List Nat → Bool) (b4 b5 b6 l : Nat) (R : LoopA) (m : Mem) (pre : List (List Nat)) (m1 : Mem) : Prop where
 l : m1 l = some (.loop .ready none R)
 f4 : m1 b4 = cellI (manyI ((pre.filter p).headD []))
 f5 : m1 b5 = some (.cells [.int .i64 (pre.filter p).length])
 f6 : m1 b6 = cellI (lastM pre)
 sub : ∀ k y,m k = some y → m1 k = some y
theorem ne_none {m : Mem} {b l : Nat} {y : Box} (h : m b = some y) (h0 : m l = none) : b ≠ l := by
 rintro rfl; rw [h0] at h; cases h
theorem filter_snoc {α : Type} (p : α → Bool) (l : List α) (x : α) : (l ++ [x]).filter p = if p x = true then l.filter p ++ [x] else l.filter p := by
 rw [List.filter_append]
 by_cases q : p x = true <;> simp [q]
theorem headD_snoc {α : Type} (l : List α) (x d : α) : (l ++ [x]).headD d = if l = [] then x else l.headD d := by cases l <;> simp
theorem lastM_snoc (pre : List (List Nat)) (x : List Nat) : lastM (pre ++ [x]) = manyI x := by unfold lastM; simp
theorem many_inj {x y : List Nat} (hx : x.length ≤ 5) (hl : x.length = y.length) (h : manyI x = manyI y) : x = y := by
 rw [many5 hx,many5 (by omega)] at h
 have := many_eq hx hl
 simp only [List.cons.injEq,and_true] at h
 obtain ⟨h0,h1,h2,h3,h4⟩ := h
 rw [h0,h1,h2,h3,h4] at this
 simpa using this
theorem last5 {C pre : List (List Nat)} (hC : ∀ x ∈ C,x.length ≤ 5) (hs : ∀ x ∈ pre,x ∈ C) : ∃ a b c d e,lastM pre = [a,b,c,d,e] := by
 unfold lastM
 cases h : pre.getLast? with
 | none => exact ⟨_,_,_,_,_,rfl⟩
 | some x => exact ⟨_,_,_,_,_,many5 (hC x (hs x (List.mem_of_getLast? h)))⟩
theorem last_ne {C pre rest : List (List Nat)} {x : List Nat} {n : Nat} (hn : n ≤ 5) (hC : ∀ x ∈ C,x.length = n) (hd : C.Nodup) (h : pre ++ x :: rest = C) : lastM pre ≠ manyI x := by
 have hx : x.length = n := hC x (by rw [← h]; simp)
 unfold lastM
 cases hg : pre.getLast? with
 | none =>
  dsimp only
  rw [many5 (x := x) (by omega)]
  intro e
  have := (List.cons.inj e).1
  unfold mny at this
  omega
 | some y =>
  dsimp only
  have hy : y ∈ pre := List.mem_of_getLast? hg
  have hyl : y.length = n := hC y (by rw [← h]; simp [hy])
  intro e
  have e := many_inj (by omega) (by omega) e
  subst e
  rw [← h] at hd
  have := (List.nodup_append.1 hd).2.2 y hy y (by simp)
  exact this rfl
theorem upN_len (lo hi : Int) (h0 : 0 ≤ lo) (h : hi ≤ 3) : (upN lo hi).length ≤ 4 := by unfold upN; simp; omega
theorem counts_len : ∀ {rs : List (Int × Int)},(∀ r ∈ rs,0 ≤ r.1 ∧ r.1 ≤ r.2 ∧ r.2 ≤ 3) → (countsOf rs).length ≤ 4 ^ rs.length
 | [],_ => by simp [countsOf]
 | r :: rs,hr => by
  have ih := counts_len (rs := rs) fun q hq => hr q (List.mem_cons_of_mem _ hq)
  obtain ⟨r1,r2,r3⟩ := hr r List.mem_cons_self
  have h1 := upN_len r.1 r.2 r1 r3
  have h2 : ∀ ns : List Nat,(ns.flatMap fun n => (countsOf rs).map (n :: ·)).length = ns.length * (countsOf rs).length := by
   intro ns
   induction ns with
   | nil => simp
   | cons n ns ih2 => rw [List.flatMap_cons,List.length_append,ih2,List.length_map,List.length_cons,Nat.add_mul,Nat.one_mul,Nat.add_comm]
  rw [countsOf,h2,List.length_cons,Nat.pow_succ,Nat.mul_comm (4 ^ rs.length)]
  exact Nat.mul_le_mul h1 ih
theorem ways_c (nm : ByteArray) (ps : List RPart) (hps : partsE ps = 0) (h5 : ps.length ≤ 5) (l : List ByteArray) (m : Mem) :
  ACall Tryz.prog 54 [.eptr (seenF nm (.slice 3 (ps.map partA)) (roomsOf ps)),strs l] m fun r m' => r = .tuple [manyA ((waysOf ps l).headD []),.int .i64 (waysOf ps l).length] ∧ ∀ k y,m k = some y → m' k = some y := by
 have hcn := counts_c (seenF nm (.slice 3 (ps.map partA)) (roomsOf ps))
 have hrm := rooms_le ps
 have hpf := parts_fit hps h5
 have hcm := counts_mem (parts_rooms hps)
 have hcl := counts_len (parts_rooms hps)
 have hp4 : 4 ^ (roomsOf ps).length ≤ 4 ^ 5 := Nat.pow_le_pow_right (by decide) (by omega)
 have hnd := counts_nodup (roomsOf ps)
 have hsh := fun x (hx : x ∈ countsOf (roomsOf ps)) => shape_c nm ps (.slice 2 ((roomsOf ps).map spanR)) hpf x (hcm x hx).1 (hcm x hx).2
 have hc1 := fun (k : Nat) (S : Nat → Prop) (J : List (List Nat) → Mem → Prop) (F : Mem → Prop) (m : Mem) (hy : COk k m S J F) => counts1_c nm (.slice 3 (ps.map partA)) (roomsOf ps) (fun r hr => by have := parts_rooms hps r hr; omega) (by omega) hy
 have heq := fun x => equalW_c (shapeOf ps x) l
 have hw : waysOf ps l = (countsOf (roomsOf ps)).filter fun x => wfits (shapeOf ps x) l := rfl
 simp only [seenF,strs,manyA] at hcn hsh hc1 heq ⊢
 (refine acall_intro (E := envC (modeAt [7] [4,5,6]) false []) (envCOk _ _ _) rfl Tryz.func54 rfl Tryz.call54 (by kernel_rfl) (by simp [Tryz.ntmps54]) ?_; simp only [Tryz.f54];  simp(maxSteps:=9^9)only[↓VX,VQ,seval])
 simp(maxSteps:=9^9)only[↓VX,VQ,seval,buildV]
 repeat'(first|intro _|apply And.intro)
 all_goals try first|omega|(simp only[LL];omega)|exact nlC (by decide) _|exact nbC rfl
 rename_i b4 hb4 b5 hb5 b6 hb6
 have n54 : b5 ≠ b4 := by rintro rfl; simp at hb5
 rw [if_neg n54] at hb5
 have n65 : b6 ≠ b5 := by rintro rfl; simp at hb6
 rw [if_neg n65] at hb6
 have n64 : b6 ≠ b4 := by rintro rfl; simp at hb6
 rw [if_neg n64] at hb6
 (refine ACall.pure (hcn) ?_; try simp(maxSteps:=9^9)only[↓VX,VQ,seval])
 refine arange rfl (f := 150) (first := []) (caps := [.eptr [.eptr [.str nm,.slice 3 (ps.map partA),.slice 2 ((roomsOf ps).map spanR)]]]) (by simp(maxSteps:=9^9)only[↓VX,VQ,seval]) ?_
 intro k hk
 have k6 : k ≠ b6 := by rintro rfl; simp [upd] at hk
 have k5 : k ≠ b5 := by rintro rfl; simp [upd,n65.symm] at hk
 have k4 : k ≠ b4 := by rintro rfl; simp [upd,n64.symm,n54.symm] at hk
 have hk0 : m k = none := by simpa [upd,k4,k5,k6] using hk
 generalize hR : LoopA.mk _ _ _ _ _ = R
 obtain ⟨J,hJdef⟩ : ∃ J : List (List Nat) → Mem → Prop,∀ rest m1,J rest m1 ↔ ∃ pre,pre ++ rest = countsOf (roomsOf ps) ∧ WaysJ (fun x => wfits (shapeOf ps x) l) b4 b5 b6 k R m pre m1 := ⟨_,fun _ _ => Iff.rfl⟩
 have hyok : COk k (upd (upd (upd (upd (upd m b4 (some (.cells [.int .i64 0,.int .i64 0,.int .i64 0,.int .i64 0,.int .i64 0]))) b5 (some (.cells [.int .i64 0]))) b6 (some (.cells [.int .i64 0,.int .i64 0,.int .i64 0,.int .i64 0,.int .i64 0]))) b6 (some (.cells [.int .i64 (-1),.int .i64 0,.int .i64 0,.int .i64 0,.int .i64 0]))) k (some (.loop .ready none R))) (fun b => b = k ∨ b = b4 ∨ b = b5 ∨ b = b6) J (fun _ => False) := by
  refine ⟨fun x rest m1 hJ => ?_,fun rest m1 b x hb hb0 hJ => ?_⟩
  ·obtain ⟨pre,hpre,j1,j4,j5,j6,js⟩ := (hJdef _ _).1 hJ
   refine ayield (E := envC (modeAt [7] [4,5,6]) true []) (envCOk _ _ _) rfl j1 (by rw [← hR]; rfl) (by rw [← hR]; rfl) (by rw [← hR]; rfl) (by rw [← hR]; rfl) ?_
   rw [← hR]
   have hxC : x ∈ countsOf (roomsOf ps) := by rw [← hpre]; simp
   have hs := hsh x hxC
   have he := heq x
   have hxl := (hcm x hxC).1
   have hx5 := many5 (x := x) (by omega)
   have hlx := last_ne (n := (roomsOf ps).length) (by omega) (fun y hy => (hcm y hy).1) hnd hpre
   obtain ⟨a0,a1,a2,a3,a4,hla⟩ := last5 (C := countsOf (roomsOf ps)) (pre := pre) (fun y hy => by have := (hcm y hy).1; omega) (fun y hy => by rw [← hpre]; simp [hy])
   have hef := eqFlatMany (mny x 0) (mny x 1) (mny x 2) (mny x 3) (mny x 4) a0 a1 a2 a3 a4
   have hE : (decide (mny x 0 = a0) && (decide (mny x 1 = a1) && (decide (mny x 2 = a2) && (decide (mny x 3 = a3) && decide (mny x 4 = a4))))) = false := by
    rw [Bool.eq_false_iff]
    intro h
    simp only [Bool.and_eq_true,decide_eq_true_eq] at h
    obtain ⟨h0,h1,h2,h3,h4⟩ := h
    rw [hla,hx5,h0,h1,h2,h3,h4] at hlx
    exact hlx rfl
   simp only [Bool.and_true] at hef
   rw [hE] at hef
   rw [hla] at j6
   rw [hx5] at hs
   simp only [manyA,hx5,List.map_cons,List.map_nil] at hs ⊢
   simp only [cellI,List.map_cons,List.map_nil] at j4 j6
   have hfs := filter_snoc (fun x => wfits (shapeOf ps x) l) pre x
   have hls := lastM_snoc pre x
   rw [hx5] at hls
   obtain ⟨B,hB⟩ : ∃ B,wfits (shapeOf ps x) l = B := ⟨_,rfl⟩
   rw [hB] at he hfs
   have hJ' : ∀ m2 : Mem,m2 k = some (.loop .ready none R) → m2 b4 = cellI (manyI (((pre ++ [x]).filter (fun x => wfits (shapeOf ps x) l)).headD [])) → m2 b5 = some (.cells [.int .i64 ((pre ++ [x]).filter (fun x => wfits (shapeOf ps x) l)).length]) →
     m2 b6 = some (.cells [.int .i64 (mny x 0),.int .i64 (mny x 1),.int .i64 (mny x 2),.int .i64 (mny x 3),.int .i64 (mny x 4)]) → (∀ j y,m1 j = some y → j ≠ k → j ≠ b4 → j ≠ b5 → j ≠ b6 → m2 j = some y) →
     Keeps (fun b => b = k ∨ b = b4 ∨ b = b5 ∨ b = b6) m1 m2 ∧ J rest m2 := fun m2 w1 w2 w3 w4 w5 => by
    refine ⟨fun j y hj hy => ?_,(hJdef _ _).2 ⟨pre ++ [x],by rw [← hpre]; simp,w1,w2,w3,by rw [w4,hls]; rfl,fun j y hy => ?_⟩⟩
    ·simp only [not_or] at hj
     exact w5 j y hy hj.1 hj.2.1 hj.2.2.1 hj.2.2.2
    ·exact w5 j y (js j y hy) (ne_none hy hk0) (ne_none hy hb4) (ne_none hy hb5) (ne_none hy hb6)
   simp(maxSteps:=9^9)only[↓VX,VQ,seval,j1,j6,k6,k6.symm,hE]
   refine ⟨hef,?_⟩
   (refine adraw (by first | exact envOk _ | exact envCOk _ _ _) mixed [⟨false,false,0⟩,⟨false,false,0⟩,⟨false,false,0⟩,⟨false,false,0⟩,⟨false,false,0⟩,⟨false,false,0⟩] (by kernel_rfl) ?_; show vcOpsD _ _ _ (_ :: _) _ _)
   simp(maxSteps:=9^9)only[↓VX,VQ,seval]
   (refine ⟨_,.inl (hs),?_⟩; try simp(maxSteps:=9^9)only[↓VX,VQ,seval])
   (refine ⟨_,.inl (he),?_⟩; try simp(maxSteps:=9^9)only[↓VX,VQ,seval])
   have hlen : (pre.filter fun x => wfits (shapeOf ps x) l).length ≤ pre.length := List.length_filter_le _ _
   have hlen2 : pre.length ≤ (countsOf (roomsOf ps)).length := by rw [← hpre,List.length_append]; omega
   cases B
   ·rw [if_neg (by decide)] at hfs
    rw [hfs] at hJ'
    simp(maxSteps:=9^9)only[↓VX,VQ,seval,j1,j4,j5,k6,k6.symm,k5,k5.symm,k4,k4.symm,n54,n54.symm,n64,n64.symm,n65,n65.symm]
    refine And.imp id Or.inl (hJ' _ ?_ ?_ ?_ ?_ ?_)
    ·exact upd_same _ _ _
    ·rw [upd_ne _ _ k4.symm,upd_ne _ _ n64.symm,upd_ne _ _ k4.symm]; exact j4
    ·rw [upd_ne _ _ k5.symm,upd_ne _ _ n65.symm,upd_ne _ _ k5.symm]; exact j5
    ·simp [upd,k6.symm]
    ·intro j y hy q1 q2 q3 q4
     simp [upd,q1,q4]; exact hy
   ·rw [if_pos rfl] at hfs
    rw [hfs] at hJ'
    have hm5 : ((manyI ((pre.filter fun x => wfits (shapeOf ps x) l).headD []))).length = 5 := by
     cases hq : pre.filter fun x => wfits (shapeOf ps x) l with
     | nil => rfl
     | cons y t =>
      have hy : y ∈ pre := (List.mem_filter.1 (by rw [hq]; exact List.mem_cons_self : y ∈ pre.filter fun x => wfits (shapeOf ps x) l)).1
      have hyl := (hcm y (by rw [← hpre]; simp [hy])).1
      show (manyI y).length = 5
      rw [many5 (by omega)]; rfl
    simp(maxSteps:=9^9)only[↓VX,VQ,seval,j1,j4,j5,k6,k6.symm,k5,k5.symm,k4,k4.symm,n54,n54.symm,n64,n64.symm,n65,n65.symm]
    refine ⟨by omega,fun h1 => ⟨by omega,?_⟩,fun h1 => ?_⟩
    ·have hnil : (pre.filter fun x => wfits (shapeOf ps x) l) = [] := List.eq_nil_of_length_eq_zero (by omega)
     rw [hnil] at hJ'
     refine And.imp id Or.inl (hJ' _ ?_ ?_ ?_ ?_ ?_)
     ·exact upd_same _ _ _
     ·rw [upd_ne _ _ k4.symm,upd_same]
      show _ = cellI (manyI x)
      rw [hx5,List.drop_eq_nil_of_le (by rw [List.length_map]; omega)]; rfl
     ·simp [upd,k5.symm,n54]
      rw [hnil]; rfl
     ·simp [upd,k6.symm,n64,n65]
     ·intro j y hy q1 q2 q3 q4
      simp [upd,q1,q2,q3,q4]; exact hy
    ·have hne : (pre.filter fun x => wfits (shapeOf ps x) l) ≠ [] := fun e => by rw [e] at h1; simp at h1
     rw [headD_snoc,if_neg hne] at hJ'
     refine And.imp id Or.inl (hJ' _ ?_ ?_ ?_ ?_ ?_)
     ·exact upd_same _ _ _
     ·rw [upd_ne _ _ k4.symm,upd_ne _ _ n54.symm,upd_ne _ _ n64.symm,upd_ne _ _ k4.symm]; exact j4
     ·simp [upd,k5.symm]
     ·simp [upd,k6.symm,n65]
     ·intro j y hy q1 q2 q3 q4
      simp [upd,q1,q3,q4]; exact hy
  ·obtain ⟨pre,hpre,j1,j4,j5,j6,js⟩ := (hJdef _ _).1 hJ
   simp only [not_or] at hb
   refine (hJdef _ _).2 ⟨pre,hpre,by rw [upd_ne _ _ (Ne.symm hb.1)]; exact j1,by rw [upd_ne _ _ (Ne.symm hb.2.1)]; exact j4,by rw [upd_ne _ _ (Ne.symm hb.2.2.1)]; exact j5,by rw [upd_ne _ _ (Ne.symm hb.2.2.2)]; exact j6,fun j y hy => ?_⟩
   rw [upd_ne _ _ ?_]
   ·exact js j y hy
   ·rintro rfl
    simp [upd,hb.1,hb.2.1,hb.2.2.1,hb.2.2.2] at hb0
    rw [hb0] at hy; cases hy
 refine ACall.mono (hc1 k _ _ _ _ hyok ?_ ?_) ?_
 ·rintro j (rfl | rfl | rfl | rfl)
  ·simp [upd]
  ·simp [upd,k4.symm,n64.symm,n54.symm]
  ·simp [upd,k5.symm,n65.symm]
  ·simp [upd,k6.symm]
 ·refine (hJdef _ _).2 ⟨[],rfl,upd_same _ _ _,?_,?_,?_,fun j y hy => ?_⟩
  ·simp [upd,k4.symm,n64.symm,n54.symm]; rfl
  ·simp [upd,k5.symm,n65.symm]
  ·simp [upd,k6.symm]; rfl
  ·simp [upd,ne_none hy hk0,ne_none hy hb4,ne_none hy hb5,ne_none hy hb6]; exact hy
 ·rintro r m' (hJ | hF)
  ·obtain ⟨pre,hpre,j1,j4,j5,j6,js⟩ := (hJdef _ _).1 hJ
   rw [List.append_nil] at hpre
   subst hpre
   rw [← hw] at j4 j5
   simp only [cellI] at j4
   clear hyok hc1
   simp(maxSteps:=9^9)only[↓VX,VQ,seval,j1,j4,j5,k6,k6.symm,k5,k5.symm,k4,k4.symm,n54,n54.symm,n64,n64.symm,n65,n65.symm]
   have hm5 : (manyI ((waysOf ps l).headD [])).length = 5 := by
    cases hq : waysOf ps l with
    | nil => rfl
    | cons y t =>
     have hy : y ∈ countsOf (roomsOf ps) := (List.mem_filter.1 (by rw [← hw,hq]; exact List.mem_cons_self)).1
     have hyl := (hcm y hy).1
     show (manyI y).length = 5
     rw [many5 (by omega)]; rfl
   have hm5' : (List.map (AV.int .i64) (manyI ((waysOf ps l).headD []))).length = 5 := by rw [List.length_map]; exact hm5
   have hmt : (List.map (AV.int .i64) (manyI ((waysOf ps l).headD []))).take 5 = List.map (AV.int .i64) (manyI ((waysOf ps l).headD [])) := List.take_of_length_le (by omega)
   have hma : (List.map (AV.int .i64) (manyI ((waysOf ps l).headD []))).all flat = true := by simp [flat]
   have hd5 : (List.map (AV.int .i64) (manyI ((waysOf ps l).headD []))).drop 5 = [] := List.drop_eq_nil_of_le (by omega)
   (refine adraw (by first | exact envOk _ | exact envCOk _ _ _) mixed [⟨false,false,0⟩,⟨true,false,8⟩,⟨false,false,0⟩,⟨false,false,0⟩] (by kernel_rfl) ?_; show vcOpsD _ _ _ (_ :: _) _ _)
   simp(maxSteps:=9^9)only[↓VX,VQ,seval,j1,j4,j5,k6,k6.symm,k5,k5.symm,k4,k4.symm,n54,n54.symm,n64,n64.symm,n65,n65.symm,hidM,isLook,maskM,hmt,hm5',hma,hd5,List.append_nil]
   intro j y hy
   rw [if_neg (ne_none hy hb5),if_neg (ne_none hy hb4),if_neg (ne_none hy hk0)]
   exact js j y hy
  ·exact hF.elim
theorem ways_p (nm : ByteArray) (ps : List RPart) (hps : partsE ps = 0) (h5 : ps.length ≤ 5) (l : List ByteArray) :
  PCall Tryz.prog 54 [.eptr (seenF nm (.slice 3 (ps.map partA)) (roomsOf ps)),strs l] (.tuple [manyA ((waysOf ps l).headD []),.int .i64 (waysOf ps l).length]) := fun m =>
 ACall.forget ((ways_c nm ps hps h5 l m).mono fun _ _ ⟨h1,h2⟩ => ⟨m,h2,h1,rfl⟩)
theorem letlook_p (f : RForm) (hf : f.parts.length ≤ 1000) : PCall Tryz.prog 53 [formA f] (.eptr (seenF f.name (.slice 3 (f.parts.map partA)) (roomsOf f.parts))) := fun m => letlook_c f hf m
def seenA (f : RForm) : AV := .eptr (seenF f.name (.slice 3 (f.parts.map partA)) (roomsOf f.parts))
def enterA (s : RShelf) (n : Int) : AV := if enterS s n ≠ 0 then .tuple [.nilptr,.int .i64 (enterS s n)] else .tuple [seenA (s.forms[n.toNat]!),.int .i64 0]
theorem enterS_ok {s : RShelf} {n : Int} (h : enterS s n = 0) : (checkS s).2.2 = 0 ∧ 0 ≤ n ∧ n.toNat < s.forms.length := by
 unfold enterS at h
 split at h
 ·rename_i h1; exact absurd h h1
 ·rename_i h1
  split at h
  ·cases h
  ·rename_i h2
   simp [offP] at h2
   exact ⟨by simpa using h1,by omega,by omega⟩
theorem letenter_c (s : RShelf) (hs : shelfFit s) (n : Int) : PCall Tryz.prog 55 [shelfA s,.int .i64 n] (enterA s n) := by
 intro m
 have hc := letcheck_c s hs
 have hof := letoff_c 0 (s.forms.length - 1) [n]
 simp only [ints,List.map_cons,List.map_nil,List.any_cons,List.any_nil,Bool.or_false] at hof
 have hlk := fun h => letlook_p (s.forms[n.toNat]!) h
 have hok := fun h => checkS_parts (s := s) h (n := n.toNat)
 obtain ⟨E,hE⟩ : ∃ E,E = enterA s n := ⟨_,rfl⟩
 rw [← hE]
 unfold enterA enterS at hE
 obtain ⟨c,hcc⟩ : ∃ c,c = checkS s := ⟨_,rfl⟩
 rw [← hcc] at hc hE hok
 obtain ⟨o,ho⟩ : ∃ o,o = offP 0 (s.forms.length - 1) n := ⟨_,rfl⟩
 rw [← ho] at hof hE
 have hon : o = false → 0 ≤ n ∧ n.toNat < s.forms.length := fun h => by
  rw [h] at ho
  simp [offP] at ho
  omega
 simp only [shelfA,shelfL,formA_eq,seenA,seenF] at hc hlk hE ⊢
 (refine acall_intro (E := env fun _ => .imm) (envOk _) rfl Tryz.func55 rfl Tryz.call55 (by kernel_rfl) (by simp [Tryz.ntmps55]) ?_; simp only [Tryz.f55];  simp(maxSteps:=9^9)only[↓VX,VQ,seval])
 (refine ACall.pure (hc) ?_; try simp(maxSteps:=9^9)only[↓VX,VQ,seval])
 repeat'(first|intro _|apply And.intro)
 all_goals try first|omega|(simp only[LL];omega)|exact nlC (by decide) _|exact nbC rfl
 ·rename_i h
  rw [if_pos h,if_pos h] at hE
  exact hE.symm
 ·rename_i h _
  rw [if_neg h] at hE
  have h0 : c.2.2 = 0 := Decidable.of_not_not h
  cases o
  ·rw [if_neg (by decide)] at hE
   obtain ⟨n1,n2⟩ := hon rfl
   have hl := hlk (by have := (hok h0 n2).2.1; omega)
   (refine ACall.pure (hof) ?_; try simp(maxSteps:=9^9)only[↓VX,VQ,seval])
   repeat'(first|intro _|apply And.intro)
   all_goals try first|omega|(simp only[LL];omega)|exact nlC (by decide) _|exact nbC rfl
   (refine ACall.pure (hl) ?_; try simp(maxSteps:=9^9)only[↓VX,VQ,seval])
   repeat'(first|intro _|apply And.intro)
   exact hE.symm
  ·rw [if_pos rfl] at hE
   (refine ACall.pure (hof) ?_; try simp(maxSteps:=9^9)only[↓VX,VQ,seval])
   repeat'(first|intro _|apply And.intro)
   rw [hE]; rfl
def ofTo (s : RShelf) (l : List ByteArray) (k : Nat) : List Int := ((List.range k).filter fun i => (waysOf (s.forms[i]!).parts l) ≠ []).map fun i : Nat => (i : Int)
theorem of_snoc (s : RShelf) (l : List ByteArray) (k : Nat) : ofTo s l (k + 1) = if waysOf (s.forms[k]!).parts l = [] then ofTo s l k else ofTo s l k ++ [(k : Int)] := by
 unfold ofTo
 rw [List.range_succ,List.filter_append,List.map_append]
 simp only [List.filter_cons,List.filter_nil]
 by_cases q : waysOf (s.forms[k]!).parts l = []
 ·rw [if_pos q,if_neg (by simpa using q),List.map_nil,List.append_nil]
 ·rw [if_neg q,if_pos (by simpa using q)]; rfl
theorem of_len (s : RShelf) (l : List ByteArray) (k : Nat) : (ofTo s l k).length ≤ k := by
 unfold ofTo
 have := List.length_filter_le (fun i => decide ((waysOf (s.forms[i]!).parts l) ≠ [])) (List.range k)
 rw [List.length_range] at this
 rw [List.length_map]; exact this
theorem ways5 {ps : List RPart} (hps : partsE ps = 0) (h5 : ps.length ≤ 5) (l : List ByteArray) : (manyI ((waysOf ps l).headD [])).length = 5 := by
 have hrm := rooms_le ps
 cases hq : waysOf ps l with
 | nil => rfl
 | cons y t =>
  have hy : y ∈ countsOf (roomsOf ps) := (List.mem_filter.1 (show y ∈ waysOf ps l by rw [hq]; exact List.mem_cons_self)).1
  have hyl := (counts_mem (parts_rooms hps) y hy).1
  show (manyI y).length = 5
  rw [many5 (by omega)]; rfl
theorem letof_c (s : RShelf) (hs : shelfFit s) (l : List ByteArray) (hl : sizesFit l) : PCall Tryz.prog 12 [shelfA s,strs l] (.tuple [ints (ofR s l).1,.int .i64 (ofR s l).2]) := by
 intro m
 have hc := letcheck_c s hs
 have hle := lettered_c l hl
 obtain ⟨E,hE⟩ : ∃ E,E = ofR s l := ⟨_,rfl⟩
 rw [← hE]
 unfold ofR at hE
 have hlk := fun i (h : (checkS s).2.2 = 0) (hi : i < s.forms.length) => letlook_p (s.forms[i]!) (by have := (checkS_parts h hi).2.1; omega)
 have hw := fun i (h : (checkS s).2.2 = 0) (hi : i < s.forms.length) => ways_p (s.forms[i]!).name (s.forms[i]!).parts (checkS_parts h hi).1 (checkS_parts h hi).2.1 l
 have hmany := fun h => checkS_many (s := s) h
 have hps := fun k (hk : k < s.forms.length) (h : (checkS s).2.2 = 0) => checkS_parts (s := s) h hk
 obtain ⟨c,hcc⟩ : ∃ c,c = checkS s := ⟨_,rfl⟩
 rw [← hcc] at hc hE hlk hw hmany hps
 obtain ⟨e,hee⟩ : ∃ e,e = letE l := ⟨_,rfl⟩
 rw [← hee] at hle hE
 simp only [shelfA,shelfL,formA_eq,seenF,strs,manyA] at hc hlk hw hle ⊢
 (refine acall_intro (E := envC (modeAt [7,8] []) false []) (envCOk _ _ _) rfl Tryz.func12 rfl Tryz.call12 (by kernel_rfl) (by simp [Tryz.ntmps12]) ?_; simp only [Tryz.f12];  simp(maxSteps:=9^9)only[↓VX,VQ,seval])
 (refine ACall.pure (hc) ?_; try simp(maxSteps:=9^9)only[↓VX,VQ,seval])
 repeat'(first|intro _|apply And.intro)
 all_goals try first|omega|(simp only[LL];omega)|exact nlC (by decide) _|exact nbC rfl
 ·rename_i h
  rw [if_neg (by simpa using h)] at hE
  (refine ACall.pure (hle) ?_; try simp(maxSteps:=9^9)only[↓VX,VQ,seval])
  repeat'(first|intro _|apply And.intro)
  all_goals try first|omega|(simp only[LL];omega)|exact nlC (by decide) _|exact nbC rfl
  ·rename_i h1
   rw [if_pos h1] at hE
   rw [hE]; rfl
  ·rename_i h1 _
   have hlk := fun i hi => hlk i h hi
   have hw := fun i hi => hw i h hi
   have h4 := (hmany h).1
   rw [if_neg h1] at hE
   refine aloop (envCOk _ _ _) (fun k : Nat => ⟨[(1,.v (.slice 1 (l.map AV.str))),(4,.v (ints (ofTo s l k))),(5,.v (.int .i64 e)),(24,.v (.slice 2 (s.forms.map formA))),(25,.v (.int .i64 s.forms.length)),(26,.v (.int .i64 k))],[4],[],m⟩)
    (fun k => k ≤ s.forms.length) (fun k => s.forms.length - k) 0 (fun _ => rfl) (by simp) (by (simp only [FE,↓FP,seval]); try simp [ints,ofTo]) ?_
   intro k hk
   by_cases hlt : k < s.forms.length
   ·have hk' : ((k : Int) < (s.forms.length : Int)) = True := by simp; omega
    have hsn := of_snoc s l k
    have h1 := hlk k hlt
    have h2 := hw k hlt
    have h5 := ways5 (hps k hlt h).1 (hps k hlt h).2.1 l
    generalize waysOf (s.forms[k]!).parts l = W at *
    have hln := of_len s l k
    have hfl : (List.map (AV.int .i64) (manyI (W.headD []))).all flat = true := by simp [flat]
    have hml : (List.map (AV.int .i64) (manyI (W.headD []))).length = 5 := by rw [List.length_map]; exact h5
    simp(maxSteps:=9^9)only[↓VX,VQ,seval,hk']
    repeat'(first|intro _|apply And.intro)
    all_goals try first|omega|(simp only[LL];omega)|exact nlC (by decide) _|exact nbC rfl
    (refine ACall.pure (h1) ?_; try simp(maxSteps:=9^9)only[↓VX,VQ,seval])
    refine ACall.pure h2 ?_
    simp(maxSteps:=9^9)only[↓VX,VQ,seval,hfl,hml,h5]
    repeat'(first|intro _|apply And.intro)
    all_goals try first|omega|(simp only[LL];omega)|exact nlC (by decide) _|exact nbC rfl
    all_goals try (rw [List.length_map]; omega)
    ·rename_i hw0
     have hne : W ≠ [] := fun e => by rw [e] at hw0; simp at hw0
     rw [if_neg hne] at hsn
     refine ⟨k + 1,by omega,by dsimp only; omega,?_⟩
     (simp only [FE,↓FP,seval])
     rw [hsn]
     simp [ints]
    ·have hne : W = [] := List.eq_nil_of_length_eq_zero (by omega)
     rw [if_pos hne] at hsn
     refine ⟨k + 1,by omega,by dsimp only; omega,?_⟩
     (simp only [FE,↓FP,seval])
     rw [hsn]
     simp
   ·have hke : k = s.forms.length := by omega
    subst hke
    simp(maxSteps:=9^9)only[↓VX,VQ,seval]
    repeat'(first|intro _|apply And.intro)
    all_goals try first|omega|(simp only[LL];omega)|exact nlC (by decide) _|exact nbC rfl
    rw [hE]; rfl
 ·rename_i h h1
  rw [if_pos h] at hE
  rw [hE]; rfl
end Go.Proofs.YtdmejgfcaacdoaaGreat.Abs
