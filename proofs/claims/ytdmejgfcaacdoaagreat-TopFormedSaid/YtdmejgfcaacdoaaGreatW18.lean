/- Lemmas for the statements of this seat (W18): they hold without conditions beyond those that each one states. -/
import Derived.Test.YtdmejgfcaacdoaaGreatW17
import Derived.Test.YtdmejgfcaacdoaaGreatW16
/- Contracts: Holds,Told. -/
namespace Go.Proofs.YtdmejgfcaacdoaaGreat.Abs
set_option linter.unusedSimpArgs false
open Go Go.RowKit Go.Proofs
theorem mem_listTo {s n : Nat} {x : Int} : x ∈ listTo s n ↔ ∃ k,k < n ∧ s.testBit k = true ∧ x = (k : Int) := by
 simp only [listTo,List.mem_map,List.mem_filter,List.mem_range]
 constructor
 ·rintro ⟨k,⟨h1,h2⟩,rfl⟩; exact ⟨k,h1,h2,rfl⟩
 ·rintro ⟨k,h1,h2,rfl⟩; exact ⟨k,⟨h1,h2⟩,rfl⟩
set_option maxHeartbeats 4000000
set_option maxRecDepth 100000
def knowsR (c : RChest) (l : List Int) : List Int × Int :=
 if askedR (checkR c).2.2 0 1 l c.copies.length ≠ 0 then ([],askedR (checkR c).2.2 0 1 l c.copies.length) else (listS (tellS c.v (bitsS l)),0)
theorem askedR_one (e : Int) (l : List Int) (u : Int) : askedR e 0 1 l u = if e ≠ 0 then e else listE l u := by
 rw [askedR_eq,show offP 0 (1 - 1) 0 = false by decide]; simp
theorem enterE_nil (c : RChest) : enterE c [] = (checkR c).2.2 := by
 unfold enterE
 by_cases h : (checkR c).2.2 ≠ 0
 ·rw [if_pos h]
 ·rw [if_neg h]; simp [pairsOff]; omega
theorem knows_top (c : RChest) (hs : namesFit c) (l : List Int) : PCall Tryz.prog 42 [chestA c,ints l] (.tuple [ints (knowsR c l).1,.int .i64 (knowsR c l).2]) := by
 intro m
 refine ACall.forget ?_
 have hR : knowsR c l = if askedR (checkR c).2.2 0 1 l c.copies.length ≠ 0 then ([],askedR (checkR c).2.2 0 1 l c.copies.length) else (listS (tellS c.v (bitsS l)),0) := rfl
 have hen := enter_c c hs [] (by simp) (by simp) m
 rw [enterE_nil] at hen
 rw [askedR_one] at hR
 generalize hL : knowsR c l = L at *
 by_cases h0 : (checkR c).2.2 ≠ 0
 ·rw [if_pos h0,if_pos h0] at hR
  generalize (checkR c).2.2 = e at *
  simp only [chestA,chestL,strs,ints,List.map_nil] at hen ⊢
  (refine acall_intro (E := env fun _ => .imm) (envOk _) rfl Tryz.func42 rfl Tryz.call42 (by kernel_rfl) (by simp [Tryz.ntmps42]) ?_; simp only [Tryz.f42];  simp(maxSteps:=9^9)only[↓VP,VQ,seval])
  refine ACall.told hen ?_
  rintro r m' (⟨_,rfl,rfl⟩ | ⟨h,_⟩)
  ·simp(maxSteps:=9^9)only[↓VP,VQ,seval,h0]
   rw [hR]
   exact ⟨m',fun _ _ h => h,rfl,rfl⟩
  ·exact absurd h h0
 ·rw [if_neg h0] at hR
  have h0' : (checkR c).2.2 = 0 := by omega
  obtain ⟨e1,hv⟩ := valid_v h0'
  rw [h0'] at hen
  clear hs h0 h0' hL
  generalize c.v = v at *
  subst e1
  rw [vchestA_raw] at hen ⊢
  have hcl : (v.raw.copies.length : Int) = v.copies.length := by simp [VChest.raw]
  rw [hcl] at hR
  have hc6 := hv.c
  have hbits := bits_c l v.copies.length (by omega) (by omega)
  rw [bitsR_snd] at hbits
  by_cases h4 : listE l v.copies.length ≠ 0
  ·rw [if_pos h4] at hR
   generalize (bitsR l v.copies.length).1 = w at *
   generalize listE l v.copies.length = e at *
   simp only [vchestA,vchestL,strs,ints,List.map_nil] at hen hbits ⊢
   (refine acall_intro (E := env fun _ => .imm) (envOk _) rfl Tryz.func42 rfl Tryz.call42 (by kernel_rfl) (by simp [Tryz.ntmps42]) ?_; simp only [Tryz.f42];  simp(maxSteps:=9^9)only[↓VP,VQ,seval])
   refine ACall.told hen ?_
   rintro r m' (⟨h,_⟩ | ⟨_,_,b,hb,rfl,rfl⟩)
   ·exact absurd rfl h
   ·simp(maxSteps:=9^9)only[↓VP,VQ,seval]
    repeat'(first|intro _|apply And.intro)
    all_goals try first|omega|(simp only[LL];omega)|exact nlC (by decide) _|exact nbC rfl
    (refine ACall.pure (hbits) ?_; try simp(maxSteps:=9^9)only[↓VP,VQ,seval])
    simp(maxSteps:=9^9)only[↓VP,VQ,seval,h4]
    refine forget_fin hb ?_
    rw [hR]; rfl
  ·rw [if_neg h4] at hR
   have h4' : listE l v.copies.length = 0 := by omega
   rw [bitsR_fst l _ h4',h4'] at hbits
   obtain ⟨r1,r2⟩ := listE_zero h4'
   have hbl : bitsS l < 2 ^ 60 := (bitsS_lt (b := 60) fun x hx => by have := r1 x hx; omega).resolve_right (by simp)
   have hlist := list_c (tellS v (bitsS l)) (Nat.lt_trans (tellS_small v hv _) (by decide))
   simp only [vchestA,vchestL,strs,ints,List.map_nil] at hen hbits hlist ⊢
   (refine acall_intro (E := env fun _ => .imm) (envOk _) rfl Tryz.func42 rfl Tryz.call42 (by kernel_rfl) (by simp [Tryz.ntmps42]) ?_; simp only [Tryz.f42];  simp(maxSteps:=9^9)only[↓VP,VQ,seval])
   refine ACall.told hen ?_
   rintro r m' (⟨h,_⟩ | ⟨_,_,b,hb,rfl,rfl⟩)
   ·exact absurd rfl h
   ·simp(maxSteps:=9^9)only[↓VP,VQ,seval]
    repeat'(first|intro _|apply And.intro)
    all_goals try first|omega|(simp only[LL];omega)|exact nlC (by decide) _|exact nbC rfl
    (refine ACall.pure (hbits) ?_; try simp(maxSteps:=9^9)only[↓VP,VQ,seval])
    refine ACall.told (tell_c v hv b (bitsS l) hbl [] _ (upd_same _ _ _)) ?_
    rintro r m' ⟨rfl,rfl⟩
    rw [upd_upd]
    simp(maxSteps:=9^9)only[↓VP,VQ,seval]
    (refine ACall.pure (hlist) ?_; try simp(maxSteps:=9^9)only[↓VP,VQ,seval])
    refine ⟨m,fun b' x h => ?_,?_,rfl⟩
    ·rw [if_neg (ne_of_some h hb),if_neg (ne_of_some h hb)]; exact h
    rw [hR]
def pickSet (t : List Nat) (ch : List Int) : Nat := ch.foldl (fun s i => s ||| 2 ^ t[i.toNat]!) 0
theorem cc0  (many : Nat) (h : many ≤ 0) : combos [] many 0 0 = (choicesL 0 many).map (pickSet []) := by
 have hd : many = 0 := by omega
 rcases hd with rfl
 ·rfl
theorem cc1 (a : Nat) (many : Nat) (h : many ≤ 1) : combos [a] many 0 0 = (choicesL 1 many).map (pickSet [a]) := by
 have hd : many = 0 ∨ many = 1 := by omega
 rcases hd with rfl | rfl
 ·rfl
 ·rfl
theorem cc2 (a b : Nat) (many : Nat) (h : many ≤ 2) : combos [a,b] many 0 0 = (choicesL 2 many).map (pickSet [a,b]) := by
 have hd : many = 0 ∨ many = 1 ∨ many = 2 := by omega
 rcases hd with rfl | rfl | rfl
 ·rfl
 ·rfl
 ·rfl
theorem cc3 (a b c : Nat) (many : Nat) (h : many ≤ 3) : combos [a,b,c] many 0 0 = (choicesL 3 many).map (pickSet [a,b,c]) := by
 have hd : many = 0 ∨ many = 1 ∨ many = 2 ∨ many = 3 := by omega
 rcases hd with rfl | rfl | rfl | rfl
 ·rfl
 ·rfl
 ·rfl
 ·rfl
theorem cc4 (a b c d : Nat) (many : Nat) (h : many ≤ 4) : combos [a,b,c,d] many 0 0 = (choicesL 4 many).map (pickSet [a,b,c,d]) := by
 have hd : many = 0 ∨ many = 1 ∨ many = 2 ∨ many = 3 ∨ many = 4 := by omega
 rcases hd with rfl | rfl | rfl | rfl | rfl
 ·rfl
 ·rfl
 ·rfl
 ·rfl
 ·rfl
theorem cc5 (a b c d e : Nat) (many : Nat) (h : many ≤ 5) : combos [a,b,c,d,e] many 0 0 = (choicesL 5 many).map (pickSet [a,b,c,d,e]) := by
 have hd : many = 0 ∨ many = 1 ∨ many = 2 ∨ many = 3 ∨ many = 4 ∨ many = 5 := by omega
 rcases hd with rfl | rfl | rfl | rfl | rfl | rfl
 ·rfl
 ·rfl
 ·rfl
 ·rfl
 ·rfl
 ·rfl
theorem cc6 (a b c d e f : Nat) (many : Nat) (h : many ≤ 6) : combos [a,b,c,d,e,f] many 0 0 = (choicesL 6 many).map (pickSet [a,b,c,d,e,f]) := by
 have hd : many = 0 ∨ many = 1 ∨ many = 2 ∨ many = 3 ∨ many = 4 ∨ many = 5 ∨ many = 6 := by omega
 rcases hd with rfl | rfl | rfl | rfl | rfl | rfl | rfl
 ·rfl
 ·rfl
 ·rfl
 ·rfl
 ·rfl
 ·rfl
 ·rfl
theorem combos_choices : ∀ (t : List Nat),t.length ≤ 6 → ∀ many ≤ t.length,combos t many 0 0 = (choicesL t.length many).map (pickSet t)
 | [],_,many,h => cc0  many h
 | [a],_,many,h => cc1 a many h
 | [a,b],_,many,h => cc2 a b many h
 | [a,b,c],_,many,h => cc3 a b c many h
 | [a,b,c,d],_,many,h => cc4 a b c d many h
 | [a,b,c,d,e],_,many,h => cc5 a b c d e many h
 | [a,b,c,d,e,f],_,many,h => cc6 a b c d e f many h
 | _ :: _ :: _ :: _ :: _ :: _ :: _ :: _,h,_,_ => by simp at h
def allCh (n upto : Nat) : List (List Int) := (List.range upto).flatMap (choicesL n)
theorem someL_map (t : List Nat) (ht : t.length ≤ 6) : someL t = (allCh t.length (t.length + 1)).map (pickSet t) := by
 unfold someL allCh
 rw [List.map_flatMap]
 have : ∀ l : List Nat,(∀ x ∈ l,x ≤ t.length) → l.flatMap (fun many => combos t many 0 0) = l.flatMap fun many => (choicesL t.length many).map (pickSet t) := by
  intro l
  induction l with
  | nil => intro _; rfl
  | cons x l ih =>
   intro h
   rw [List.flatMap_cons,List.flatMap_cons,ih fun y hy => h y (by simp [hy]),combos_choices t ht x (h x (by simp))]
 exact this _ fun x hx => by have := List.mem_range.1 hx; omega
def searchL (n upto : Nat) (q : List Int → Bool) : Option (List Int) := (allCh n upto).find? q
theorem firstL_search (t : List Nat) (ht : t.length ≤ 6) (p : Nat → Bool) : firstL t p = match searchL t.length (t.length + 1) (fun ch => p (pickSet t ch)) with
  | some ch => (listS (pickSet t ch),true)
  | none => ([],false) := by
 unfold firstL searchL
 rw [someL_map t ht,List.find?_map]
 have : (p ∘ pickSet t) = fun ch => p (pickSet t ch) := rfl
 rw [this]
 cases (allCh t.length (t.length + 1)).find? fun ch => p (pickSet t ch) <;> rfl
def ascB : List Int → Bool
 | x :: y :: r => decide (x < y) && ascB (y :: r)
 | _ => true
theorem choices_asc_all : ((List.range 7).all fun b => (List.range 7).all fun i => (choicesL b i).all ascB) = true := by kernel_rfl
theorem choices_asc {b i : Nat} (hb : b ≤ 6) (hi : i ≤ 6) {l : List Int} (h : l ∈ choicesL b i) : ascB l = true := by
 have h1 := List.all_eq_true.1 choices_asc_all b (List.mem_range.2 (by omega))
 have h2 := List.all_eq_true.1 h1 i (List.mem_range.2 (by omega))
 exact List.all_eq_true.1 h2 l h
theorem ascB_pair : ∀ {l : List Int},ascB l = true → l.Pairwise (· < ·)
 | [],_ => List.Pairwise.nil
 | [x],_ => by simp
 | x :: y :: r,h => by
  simp only [ascB,Bool.and_eq_true,decide_eq_true_eq] at h
  have ih := ascB_pair h.2
  refine List.Pairwise.cons (fun z hz => ?_) ih
  rcases List.mem_cons.1 hz with rfl | hz
  ·exact h.1
  ·have := (List.pairwise_cons.1 ih).1 z hz
   omega
theorem pair_ext : ∀ {a b : List Int},a.Pairwise (· < ·) → b.Pairwise (· < ·) → (∀ x,x ∈ a ↔ x ∈ b) → a = b
 | [],[],_,_,_ => rfl
 | [],y :: b,_,_,h => by have := (h y).2 (by simp); simp at this
 | x :: a,[],_,_,h => by have := (h x).1 (by simp); simp at this
 | x :: a,y :: b,ha,hb,h => by
  rw [List.pairwise_cons] at ha hb
  have e : x = y := by
   have h1 := (h x).1 (by simp)
   have h2 := (h y).2 (by simp)
   rcases List.mem_cons.1 h1 with e | h1
   ·exact e
   ·rcases List.mem_cons.1 h2 with e | h2
    ·exact e.symm
    ·have := hb.1 x h1
     have := ha.1 y h2
     omega
  subst e
  rw [pair_ext ha.2 hb.2 fun z => ?_]
  constructor
  ·intro hz
   rcases List.mem_cons.1 ((h z).1 (by simp [hz])) with e | h'
   ·have := ha.1 z hz; omega
   ·exact h'
  ·intro hz
   rcases List.mem_cons.1 ((h z).2 (by simp [hz])) with e | h'
   ·have := hb.1 z hz; omega
   ·exact h'
theorem listTo_pair (s : Nat) : ∀ n,(listTo s n).Pairwise (· < ·)
 | 0 => by simp [listTo]
 | n + 1 => by
  rw [listTo_succ]
  split
  ·rw [List.pairwise_append]
   refine ⟨listTo_pair s n,by simp,fun x hx y hy => ?_⟩
   obtain ⟨k,h1,_,rfl⟩ := mem_listTo.1 hx
   rw [List.mem_singleton.1 hy]; omega
  ·exact listTo_pair s n
theorem listS_bitsS {l : List Int} (h : l.Pairwise (· < ·)) (hr : ∀ x ∈ l,0 ≤ x ∧ x < 62) : listS (bitsS l) = l := by
 refine pair_ext (listTo_pair _ _) h fun x => ?_
 unfold listS
 rw [mem_listTo]
 constructor
 ·rintro ⟨k,h1,h2,rfl⟩
  rw [bitsS_bit,List.any_eq_true] at h2
  obtain ⟨y,hy,e⟩ := h2
  rw [decide_eq_true_eq] at e
  have := hr y hy
  have : ((k : Nat) : Int) = y := by omega
  rw [this]; exact hy
 ·intro hx
  have := hr x hx
  refine ⟨x.toNat,by omega,?_,by omega⟩
  rw [bitsS_bit,List.any_eq_true]
  exact ⟨x,hx,by simp⟩
theorem pickSet_bits (t : List Nat) : ∀ (ch : List Int) (s : Nat),(∀ i ∈ ch,0 ≤ i ∧ i < t.length) → ch.foldl (fun s i => s ||| 2 ^ t[i.toNat]!) s = s ||| bitsS (pickL (t.map fun (x : Nat) => (x : Int)) ch)
 | [],s,_ => by simp [pickL,bitsS]
 | i :: ch,s,h => by
  have hi := h i (by simp)
  rw [List.foldl_cons,pickSet_bits t ch _ fun j hj => h j (by simp [hj])]
  have hlt : i.toNat < t.length := by omega
  have e : ((t.map fun (x : Nat) => (x : Int))[i.toNat]!).toNat = t[i.toNat]! := by
   rw [getD_idx (by simpa using hlt),getD_any hlt]; simp
  show _ = s ||| (2 ^ ((t.map fun (x : Nat) => (x : Int))[i.toNat]!).toNat ||| bitsS (pickL _ ch))
  rw [e,Nat.or_assoc]
theorem pickSet_eq (t : List Nat) (ch : List Int) (h : ∀ i ∈ ch,0 ≤ i ∧ i < t.length) : pickSet t ch = bitsS (pickL (t.map fun (x : Nat) => (x : Int)) ch) := by
 unfold pickSet; rw [pickSet_bits t ch 0 h]; simp
theorem pair_get {l : List Int} (h : l.Pairwise (· < ·)) {i j : Nat} (hij : i < j) (hj : j < l.length) : l[i]! < l[j]! := by
 rw [getD_idx (by omega),getD_idx hj]
 exact List.pairwise_iff_getElem.1 h i j (by omega) hj hij
theorem pickL_pair {l : List Int} (hl : l.Pairwise (· < ·)) : ∀ {ch : List Int},ch.Pairwise (· < ·) → (∀ i ∈ ch,0 ≤ i ∧ i < l.length) → (pickL l ch).Pairwise (· < ·)
 | [],_,_ => List.Pairwise.nil
 | i :: ch,h,hr => by
  rw [List.pairwise_cons] at h
  have hi := hr i (by simp)
  refine List.Pairwise.cons (fun y hy => ?_) (pickL_pair hl h.2 fun j hj => hr j (by simp [hj]))
  obtain ⟨j,hj,rfl⟩ := List.mem_map.1 hy
  have h1 := h.1 j hj
  have h2 := hr j (by simp [hj])
  exact pair_get hl (by omega) (by omega)
theorem pickL_mem {l ch : List Int} {y : Int} (hy : y ∈ pickL l ch) (hr : ∀ i ∈ ch,0 ≤ i ∧ i < l.length) : y ∈ l := by
 obtain ⟨j,hj,rfl⟩ := List.mem_map.1 hy
 have h2 := hr j hj
 rw [getD_idx (by omega)]
 exact List.getElem_mem _
theorem pick_list {l : List Int} (hl : l.Pairwise (· < ·)) (hr : ∀ x ∈ l,0 ≤ x ∧ x < 62) (hn : l.length ≤ 6) {i : Nat} (hi : i ≤ 6) {ch : List Int} (h : ch ∈ choicesL l.length i) : listS (bitsS (pickL l ch)) = pickL l ch := by
 have h1 := choices_mem h
 refine listS_bitsS (pickL_pair hl (ascB_pair (choices_asc hn hi h)) h1.2) fun x hx => hr x (pickL_mem hx h1.2)
theorem risingL_pair {u : Int} : ∀ {l : List Int} {last : Int},risingL u last l = true → l.Pairwise (· < ·) ∧ (∀ x ∈ l,last < x ∧ x < u) ∧ (l.length : Int) ≤ max 0 (u - 1 - last)
 | [],last,_ => ⟨List.Pairwise.nil,by simp,by simp; omega⟩
 | x :: l,last,h => by
  simp only [risingL,Bool.and_eq_true,decide_eq_true_eq] at h
  obtain ⟨h1,h2,h3⟩ := risingL_pair h.2
  refine ⟨List.Pairwise.cons (fun y hy => (h2 y hy).1) h1,fun y hy => ?_,?_⟩
  ·rcases List.mem_cons.1 hy with rfl | hy
   ·exact h.1
   ·have := h2 y hy; omega
  ·rw [List.length_cons]; omega
theorem listE_rise {l : List Int} {u : Nat} (h : listE l u = 0) : l.Pairwise (· < ·) ∧ (∀ x ∈ l,0 ≤ x ∧ x < u) ∧ l.length ≤ u := by
 obtain ⟨h1,h2⟩ := listE_zero h
 obtain ⟨h3,_,h4⟩ := risingL_pair h2
 exact ⟨h3,h1,by omega⟩
theorem nats_ints {l : List Int} (h : ∀ x ∈ l,0 ≤ x) : (l.map Int.toNat).map (fun (x : Nat) => (x : Int)) = l := by
 rw [List.map_map]
 conv => rhs; rw [← List.map_id l]
 refine List.map_congr_left fun x hx => ?_
 have := h x hx
 simp; omega
theorem ints_natsA {l : List Int} (h : ∀ x ∈ l,0 ≤ x) : ints l = natsA (l.map Int.toNat) := by
 conv => lhs; rw [← nats_ints h]
 simp [ints,natsA,List.map_map]
theorem mem_allCh {n upto : Nat} {ch : List Int} : ch ∈ allCh n upto ↔ ∃ i,i < upto ∧ ch ∈ choicesL n i := by
 simp [allCh,List.mem_flatMap]
theorem allCh_succ (n k : Nat) : allCh n (k + 1) = allCh n k ++ choicesL n k := by
 simp [allCh,List.range_succ]
theorem find_congr {α : Type} {p q : α → Bool} : ∀ {l : List α},(∀ x ∈ l,p x = q x) → l.find? p = l.find? q
 | [],_ => rfl
 | x :: l,h => by
  rw [List.find?_cons,List.find?_cons,h x (by simp),find_congr fun y hy => h y (by simp [hy])]
theorem first_pick {l : List Int} (hl : l.Pairwise (· < ·)) (hr : ∀ x ∈ l,0 ≤ x ∧ x < 60) (hn : l.length ≤ 6) (p : Nat → Bool) :
  firstL (l.map Int.toNat) p = match searchL l.length (l.length + 1) (fun ch => p (bitsS (pickL l ch))) with
   | some ch => (pickL l ch,true)
   | none => ([],false) := by
 have hlen : (l.map Int.toNat).length = l.length := by simp
 rw [firstL_search _ (by rw [hlen]; exact hn) p,hlen]
 have hni := nats_ints (l := l) fun x hx => (hr x hx).1
 have hps : ∀ ch ∈ allCh l.length (l.length + 1),pickSet (l.map Int.toNat) ch = bitsS (pickL l ch) := fun ch hch => by
  obtain ⟨i,_,hc⟩ := mem_allCh.1 hch
  rw [pickSet_eq _ _ (by rw [hlen]; exact (choices_mem hc).2),hni]
 have hf : searchL l.length (l.length + 1) (fun ch => p (pickSet (l.map Int.toNat) ch)) = searchL l.length (l.length + 1) (fun ch => p (bitsS (pickL l ch))) :=
  find_congr fun ch hch => by rw [hps ch hch]
 rw [hf]
 cases hs : searchL l.length (l.length + 1) fun ch => p (bitsS (pickL l ch)) with
 | none => rfl
 | some ch =>
  have hch := List.mem_of_find?_eq_some hs
  obtain ⟨i,hi,hc⟩ := mem_allCh.1 hch
  simp only
  rw [hps ch hch,pick_list hl (fun x hx => by have := hr x hx; omega) hn (by omega) hc]
def whyL (v : VChest) (l : List Int) (fact : Nat) : List Int × Int := match searchL l.length (l.length + 1) (fun ch => (tellS v (bitsS (pickL l ch))).testBit fact) with
 | some ch => (pickL l ch,0)
 | none => ([],9)
def whyR (c : RChest) (l : List Int) (fact : Int) : List Int × Int :=
 if askedR (checkR c).2.2 fact c.facts l c.copies.length ≠ 0 then ([],askedR (checkR c).2.2 fact c.facts l c.copies.length) else whyL c.v l fact.toNat
theorem forget_keeps {S : Nat → Prop} {m m' : Mem} {b : Nat} {y : Box} {R : Prop} (hb : m b = none) (hS : S = fun c => c = b) (h : Keeps S (upd m b (some y)) m') (hR : R) : ∃ m'' : Mem,(∀ c x,m'' c = some x → m' c = some x) ∧ R ∧ m'' = m := by
 subst hS
 refine ⟨m,fun c x hc => ?_,hR,rfl⟩
 have hne := ne_of_some hc hb
 exact h c x hne ((upd_ne _ _ hne).trans hc)
theorem why_ok (v : VChest) (hv : VOk v) (l : List Int) (fact : Nat) (hl : listE l v.copies.length = 0) (hf : fact < v.facts)
  (hen : ∀ m,ACall Tryz.prog 47 [vchestA v,ints [(fact : Int),v.facts]] m fun r m' => ∃ b,m b = none ∧ r = .tuple [.eptr (seenL v b),.int .i64 0] ∧ m' = upd m b (some (.map []))) :
  PCall Tryz.prog 43 [vchestA v,ints l,.int .i64 fact] (.tuple [ints (whyL v l fact).1,.int .i64 (whyL v l fact).2]) := by
 intro m
 refine ACall.forget ?_
 obtain ⟨r1,r2,r3⟩ := listE_rise hl
 have hc6 := hv.c
 have hf6 := hv.f
 have hl6 : l.length ≤ 6 := by omega
 have hbits := bits_c l v.copies.length (by omega) (by omega)
 rw [bitsR_snd,hl] at hbits
 have hW : whyL v l fact = match searchL l.length (l.length + 1) (fun ch => (tellS v (bitsS (pickL l ch))).testBit fact) with
  | some ch => (pickL l ch,0)
  | none => ([],9) := rfl
 have hfp := first_pick r1 (fun x hx => by have := r2 x hx; omega) hl6 (fun s => (tellS v s).testBit fact)
 have hfirst := fun (b : Nat) (m : Mem) (hm : ToldM v b m) => first_c (l.map Int.toNat) (fun x hx => by obtain ⟨y,hy,rfl⟩ := List.mem_map.1 hx; have := r2 y hy; omega) (by simp; omega)
  (wok_told (g := 99) (caps := [.eptr [.eptr (seenL v b)],.eptr [.int .i64 fact]]) (p := fun s => (tellS v s).testBit fact) (v := v) (b := b) fun x m l' hx hm => why1_c v b fact hv (by omega) x m l' hx hm) m hm
 rw [← ints_natsA fun x hx => (r2 x hx).1] at hfirst
 generalize whyL v l fact = W at *
 generalize firstL (l.map Int.toNat) (fun s => (tellS v s).testBit fact) = FL at *
 have hen := hen m
 have hcase : (∃ ch,W = (pickL l ch,0) ∧ FL = (pickL l ch,true)) ∨ (W = ([],9) ∧ FL = ([],false)) := by
  cases hs : searchL l.length (l.length + 1) fun ch => (tellS v (bitsS (pickL l ch))).testBit fact with
  | some ch => rw [hs] at hW hfp; exact .inl ⟨ch,hW,hfp⟩
  | none => rw [hs] at hW hfp; exact .inr ⟨hW,hfp⟩
 clear hW hfp
 rcases hcase with ⟨ch,rfl,rfl⟩ | ⟨rfl,rfl⟩
 all_goals
  simp only [vchestA,vchestL,strs,ints,List.map_cons,List.map_nil] at hen hbits hfirst ⊢
  (refine acall_intro (E := envC (modeAt [8] []) false []) (envCOk _ _ _) rfl Tryz.func43 rfl Tryz.call43 (by kernel_rfl) (by simp [Tryz.ntmps43]) ?_; simp only [Tryz.f43];  simp(maxSteps:=9^9)only[↓VP,VQ,seval])
  repeat'(first|intro _|apply And.intro)
  refine ACall.told hen ?_
  rintro r m1 ⟨b,hb,rfl,rfl⟩
  simp(maxSteps:=9^9)only[↓VP,VQ,seval]
  repeat'(first|intro _|apply And.intro)
  all_goals try first|omega|(simp only[LL];omega)|exact nlC (by decide) _|exact nbC rfl
  (refine ACall.pure (hbits) ?_; try simp(maxSteps:=9^9)only[↓VP,VQ,seval])
  refine ACall.told (hfirst b _ ⟨[],upd_same _ _ _⟩) ?_
  rintro r m2 ⟨rfl,hM,hk⟩
  simp(maxSteps:=9^9)only[↓VP,VQ,seval]
  obtain ⟨m'',q1,_,q2⟩ := forget_keeps (R := True) hb rfl hk trivial
  exact ⟨m'',q1,q2⟩
theorem facts_of {c : RChest} (h : (checkR c).2.2 = 0) : -9223372036854775000 ≤ c.facts ∧ c.facts ≤ 9223372036854775807 := by
 obtain ⟨h1,_⟩ := checkR_parts h
 simp only [Bool.or_eq_false_iff,offP_false] at h1
 omega
theorem bounds_two {n b : Int} (hb : -9223372036854775000 ≤ b ∧ b ≤ 9223372036854775807) : ∀ j,2 * j + 1 < [n,b].length → -9223372036854775000 ≤ [n,b][2 * j + 1]! ∧ [n,b][2 * j + 1]! ≤ 9223372036854775807 := by
 intro j hj
 have : j = 0 := by simp at hj; omega
 subst this
 simpa using hb
theorem enter_ok (v : VChest) (hv : VOk v) (hs : namesFit v.raw) (l : List Int) (hlen : l.length ≤ 1000) (hlow : ∀ j,2 * j + 1 < l.length → -9223372036854775000 ≤ l[2 * j + 1]! ∧ l[2 * j + 1]! ≤ 9223372036854775807) (hoff : pairsOff l = false) (m : Mem) :
  ACall Tryz.prog 47 [vchestA v,ints l] m fun r m' => ∃ b,m b = none ∧ r = .tuple [.eptr (seenL v b),.int .i64 0] ∧ m' = upd m b (some (.map [])) := by
 have hE : enterE v.raw l = 0 := by unfold enterE; rw [vok_check hv,hoff]; rfl
 have := enter_c v.raw hs l hlen (fun _ => hlow) m
 rw [hE,vchestA_raw] at this
 have hvv : v.raw.v = v := by
  obtain ⟨w,f,p,la,cs,rs⟩ := v
  simp only [VChest.raw,RChest.v,List.map_map,VChest.mk.injEq,Int.toNat_natCast,true_and]
  refine ⟨?_,?_⟩
  ·conv => rhs; rw [← List.map_id cs]
   exact List.map_congr_left fun x _ => by obtain ⟨a,b,c,d⟩ := x; simp [VCopy.raw,RCopy.v]
  ·conv => rhs; rw [← List.map_id rs]
   exact List.map_congr_left fun x _ => by obtain ⟨a,b⟩ := x; simp [VRule.raw,RRule.v]
 rw [hvv] at this
 exact this.mono fun r m' h => by
  rcases h with ⟨h,_⟩ | ⟨_,_,h⟩
  ·exact absurd rfl h
  ·exact h
theorem whyR_bad1 {c : RChest} {l : List Int} {fact e : Int} (h : enterE c [fact,c.facts] = e) (he : e ≠ 0) : whyR c l fact = ([],e) := by
 rw [enterE_two] at h
 unfold whyR
 rw [askedR_eq]
 by_cases q1 : (checkR c).2.2 ≠ 0
 ·rw [if_pos q1] at h ⊢; rw [h,if_pos he]
 ·rw [if_neg q1] at h ⊢
  by_cases q2 : offP 0 (c.facts - 1) fact = true
  ·rw [if_pos q2] at h ⊢; rw [h,if_pos he]
  ·rw [if_neg q2] at h; exact absurd h.symm he
theorem why_top (c : RChest) (hs : namesFit c) (l : List Int) (fact : Int) : PCall Tryz.prog 43 [chestA c,ints l,.int .i64 fact] (.tuple [ints (whyR c l fact).1,.int .i64 (whyR c l fact).2]) := by
 by_cases h0 : enterE c [fact,c.facts] ≠ 0
 ·rw [whyR_bad1 rfl h0]
  intro m
  refine ACall.forget ?_
  have hen := enter_c c hs [fact,c.facts] (by simp) (fun hk => bounds_two (facts_of hk)) m
  generalize enterE c [fact,c.facts] = e at *
  simp only [chestA,chestL,strs,ints,List.map_nil,List.map_cons] at hen ⊢
  (refine acall_intro (E := envC (modeAt [8] []) false []) (envCOk _ _ _) rfl Tryz.func43 rfl Tryz.call43 (by kernel_rfl) (by simp [Tryz.ntmps43]) ?_; simp only [Tryz.f43];  simp(maxSteps:=9^9)only[↓VP,VQ,seval])
  repeat'(first|intro _|apply And.intro)
  refine ACall.told hen ?_
  rintro r m' (⟨_,rfl,rfl⟩ | ⟨h,_⟩)
  ·simp(maxSteps:=9^9)only[↓VP,VQ,seval,h0]
   exact ⟨m',fun _ _ h => h,rfl⟩
  ·exact absurd h h0
 ·have h0' : enterE c [fact,c.facts] = 0 := by omega
  rw [enterE_two] at h0'
  have q1 : (checkR c).2.2 = 0 := by
   by_cases q : (checkR c).2.2 ≠ 0
   ·rw [if_pos q] at h0'; exact absurd h0' q
   ·omega
  rw [if_neg (by omega)] at h0'
  have q2 : offP 0 (c.facts - 1) fact = false := by
   cases hq : offP 0 (c.facts - 1) fact with
   | false => rfl
   | true => rw [hq] at h0'; simp at h0'
  have hRR : whyR c l fact = if listE l c.copies.length ≠ 0 then ([],listE l c.copies.length) else whyL c.v l fact.toNat := by
   unfold whyR; simp only [askedR_eq,q1,q2,ne_eq,not_true_eq_false,if_false,Bool.false_eq_true]
  rw [hRR]
  obtain ⟨e1,hv⟩ := valid_v q1
  clear hRR h0 h0'
  generalize c.v = v at *
  subst e1
  rw [offP_false] at q2
  have q2' : 0 ≤ fact ∧ fact ≤ (v.facts : Int) - 1 := q2
  have hcl : (v.raw.copies.length : Int) = v.copies.length := by simp [VChest.raw]
  have hf6 := hv.f
  have hc6 := hv.c
  rw [hcl,vchestA_raw]
  have hen := fun m => enter_ok v hv hs [fact,v.facts] (by simp) (bounds_two (by omega)) (by
   have : offP 0 ((v.facts : Int) - 1) fact = false := by rw [offP_false]; exact q2'
   simp [pairsOff,this]) m
  by_cases h4 : listE l v.copies.length ≠ 0
  ·rw [if_pos h4]
   intro m
   refine ACall.forget ?_
   have hbits := bits_c l v.copies.length (by omega) (by omega)
   rw [bitsR_snd] at hbits
   have hen := hen m
   generalize (bitsR l v.copies.length).1 = w at *
   generalize listE l v.copies.length = e at *
   simp only [vchestA,vchestL,strs,ints,List.map_nil,List.map_cons] at hen hbits ⊢
   (refine acall_intro (E := envC (modeAt [8] []) false []) (envCOk _ _ _) rfl Tryz.func43 rfl Tryz.call43 (by kernel_rfl) (by simp [Tryz.ntmps43]) ?_; simp only [Tryz.f43];  simp(maxSteps:=9^9)only[↓VP,VQ,seval])
   repeat'(first|intro _|apply And.intro)
   refine ACall.told hen ?_
   rintro r m' ⟨b,hb,rfl,rfl⟩
   simp(maxSteps:=9^9)only[↓VP,VQ,seval]
   repeat'(first|intro _|apply And.intro)
   all_goals try first|omega|(simp only[LL];omega)|exact nlC (by decide) _|exact nbC rfl
   (refine ACall.pure (hbits) ?_; try simp(maxSteps:=9^9)only[↓VP,VQ,seval])
   simp(maxSteps:=9^9)only[↓VP,VQ,seval,h4]
   refine ⟨m,fun b' x h => ?_,rfl⟩
   rw [if_neg (ne_of_some h hb)]; exact h
  ·rw [if_neg h4]
   have hfn : fact = ((fact.toNat : Nat) : Int) := by omega
   have := why_ok v hv l fact.toNat (by omega) (by omega) (by rw [← hfn]; exact hen)
   rwa [← hfn] at this
end Go.Proofs.YtdmejgfcaacdoaaGreat.Abs
