/- Lemmas for the statements of this seat (W12): they hold without conditions beyond those that each one states. -/
import Derived.Test.YtikodjpbknneoaaW9
import Derived.Test.YtikodjpbknneoaaW11
import Derived.Test.YtikodjpbknneoaaW10
import Derived.Test.YtikodjpbknneoaaW2
import Derived.Test.YtikodjpbknneoaaW8
import Derived.Test.YtikodjpbknneoaaW7
/- Laws: what is a way; the least number of strays; the first way. -/
namespace Go.Proofs.Ytikodjpbknneoaa.Abs
set_option linter.unusedSimpArgs false
open Go Go.RowKit Go.Proofs
def OkAt (b : RBook) (t : RTru) (w : List Int) (a : Nat) : Prop := w[a]! = -1 ∨ ∃ k,k < b.harb.letters.length ∧ w[a]! = (k : Int) ∧ (k : Int) ∉ w.take a ∧ canR b t a k = true
theorem getD_snoc {l : List Int} {x : Int} {i : Nat} (h : i < l.length) : (l ++ [x])[i]! = l[i]! := by
 rw [getD_any (by simp; omega),getD_any h,List.getElem_append_left h]
theorem getD_last (l : List Int) (x : Int) : (l ++ [x])[l.length]! = x := by
 rw [getD_any (by simp)]; simp
theorem mem_extW {b : RBook} {t : RTru} {a : Nat} {o x : List Int} : x ∈ extW b t a o ↔ (∃ k,k < b.harb.letters.length ∧ (k : Int) ∉ o ∧ canR b t a k = true ∧ x = o ++ [(k : Int)]) ∨ x = o ++ [-1] := by
 unfold extW
 simp only [List.mem_append,List.mem_map,List.mem_filter,List.mem_range,List.mem_singleton,Bool.and_eq_true,Bool.not_eq_true',decide_eq_false_iff_not]
 constructor
 ·rintro (⟨k,⟨h1,h2,h3⟩,rfl⟩ | h)
  ·exact .inl ⟨k,h1,h2,h3,rfl⟩
  ·exact .inr h
 ·rintro (⟨k,h1,h2,h3,rfl⟩ | h)
  ·exact .inl ⟨k,⟨h1,h2,h3⟩,rfl⟩
  ·exact .inr h
theorem mem_waysTo {b : RBook} {t : RTru} : ∀ {n : Nat} {w : List Int},w ∈ waysTo b t n ↔ w.length = n ∧ ∀ a,a < n → OkAt b t w a
 | 0,w => by
  simp only [waysTo,List.mem_singleton]
  constructor
  ·rintro rfl; exact ⟨rfl,fun a h => absurd h (by omega)⟩
  ·rintro ⟨h,_⟩; exact List.eq_nil_of_length_eq_zero h
 | n + 1,w => by
  unfold waysTo
  rw [List.mem_flatMap]
  constructor
  ·rintro ⟨o,ho,hx⟩
   obtain ⟨h1,h2⟩ := mem_waysTo.1 ho
   have ht : ∀ (x : Int) (a : Nat),a < n → OkAt b t (o ++ [x]) a := fun x a ha => by
    have := h2 a ha
    unfold OkAt at this ⊢
    rw [getD_snoc (by omega),List.take_append_of_le_length (by omega)]
    exact this
   rcases mem_extW.1 hx with ⟨k,k1,k2,k3,rfl⟩ | rfl
   ·refine ⟨by simp [h1],fun a ha => ?_⟩
    by_cases q : a < n
    ·exact ht _ a q
    ·have : a = o.length := by omega
     subst this
     refine .inr ⟨k,k1,getD_last _ _,by simpa using k2,by rw [h1]; exact k3⟩
   ·refine ⟨by simp [h1],fun a ha => ?_⟩
    by_cases q : a < n
    ·exact ht _ a q
    ·have : a = o.length := by omega
     subst this
     exact .inl (getD_last _ _)
  ·rintro ⟨h1,h2⟩
   have hne : w ≠ [] := by rintro rfl; cases h1
   have hw := List.dropLast_concat_getLast hne
   generalize w.dropLast = o at hw
   generalize w.getLast hne = x at hw
   subst hw
   have hol : o.length = n := by simpa using h1
   refine ⟨o,mem_waysTo.2 ⟨hol,fun a ha => ?_⟩,?_⟩
   ·have := h2 a (by omega)
    unfold OkAt at this ⊢
    rw [getD_snoc (by omega),List.take_append_of_le_length (by omega)] at this
    exact this
   ·rw [mem_extW]
    rcases h2 n (by omega) with h | ⟨k,k1,k2,k3,k4⟩
    ·rw [← hol,getD_last] at h
     exact .inr (by rw [h])
    ·rw [← hol,getD_last] at k2
     refine .inl ⟨k,k1,?_,k4,by rw [k2]⟩
     rw [← hol] at k3
     simpa using k3
theorem mem_waysR {b : RBook} {t : RTru} {w : List Int} : w ∈ waysR b t ↔ w.length = b.answers.length ∧ ∀ a,a < b.answers.length → OkAt b t w a := mem_waysTo
theorem OkAt.range {b : RBook} {t : RTru} {w : List Int} {a : Nat} (h : OkAt b t w a) : -1 ≤ w[a]! ∧ w[a]! < (b.harb.letters.length : Int) := by
 rcases h with h | ⟨k,h1,h2,_,_⟩ <;> omega
theorem ways_once {b : RBook} {t : RTru} {w : List Int} (h : w ∈ waysR b t) {i j : Nat} (hi : i < w.length) (hj : j < w.length) (e : w[i]! = w[j]!) (hs : w[i]! ≠ -1) : i = j := by
 have key : ∀ {i j : Nat},i < j → j < w.length → w[i]! = w[j]! → w[i]! ≠ -1 → False := by
  intro i j hij hj e hs
  obtain ⟨h1,h2⟩ := mem_waysR.1 h
  rcases h2 j (by omega) with q | ⟨k,_,k2,k3,_⟩
  ·exact hs (by rw [e,q])
  ·apply k3
   rw [← k2,← e]
   rw [getD_any (by omega : i < w.length)]
   exact List.mem_take_iff_getElem.2 ⟨i,by omega,rfl⟩
 rcases Nat.lt_trichotomy i j with q | q | q
 ·exact (key q hj e hs).elim
 ·exact q
 ·exact (key q hi e.symm (by rw [← e]; exact hs)).elim
set_option maxHeartbeats 4000000
set_option maxRecDepth 100000
theorem any_range {α : Type} [Inhabited α] (P : α → Bool) : ∀ F : List α,(List.range F.length).any (fun i => P F[i]!) = F.any P := by
 intro F
 rw [Bool.eq_iff_iff,List.any_eq_true,List.any_eq_true]
 constructor
 ·rintro ⟨i,hi,h⟩
  have hi := List.mem_range.1 hi
  rw [getD_any hi] at h
  exact ⟨_,List.getElem_mem hi,h⟩
 ·rintro ⟨x,hx,h⟩
  obtain ⟨i,hi,rfl⟩ := List.mem_iff_getElem.1 hx
  exact ⟨i,List.mem_range.2 hi,by rw [getD_any hi]; exact h⟩
theorem count_range {α : Type} [Inhabited α] (P : α → Bool) : ∀ F : List α,((List.range F.length).filter fun i => P F[i]!).length = (F.filter P).length
 | [] => rfl
 | x :: F => by
  have ih := count_range P F
  rw [List.length_cons,List.range_succ_eq_map,List.filter_cons,List.filter_map,List.filter_cons]
  have e : ((fun i => P (x :: F)[i]!) ∘ Nat.succ) = fun i => P F[i]! := by funext i; rfl
  rw [e]
  by_cases q : P x = true
  ·rw [if_pos q,if_pos (by exact q),List.length_cons,List.length_cons,List.length_map,ih]
  ·rw [if_neg q,if_neg (by exact q),List.length_map,ih]
def askF {α : Type} (P : α → Bool) (F : List α) : Int := settledR ((F.filter P).length : Nat) (F.length : Nat)
theorem oft_count (F : List (RTru × List Int)) (a : Nat) (k : Int) : oftB F a k F.length = (F.filter fun x => decide (x.2[a]! = k)).length := count_range (fun x : RTru × List Int => decide (x.2[a]! = k)) F
theorem oftW_count (F : List (RTru × List Int)) (k : Nat) : oftW F k F.length = (F.filter fun x => !decide ((k : Int) ∈ x.2)).length := count_range (fun x : RTru × List Int => !decide ((k : Int) ∈ x.2)) F
theorem ask_must {α : Type} {P : α → Bool} {F : List α} : askF P F = 1 ↔ (F.filter P).length = F.length := by
 unfold askF settledR
 constructor
 ·intro h
  split at h
  ·omega
  ·split at h <;> cases h
 ·intro h
  rw [if_pos (by omega)]
theorem ask_never {α : Type} {P : α → Bool} {F : List α} (hF : 0 < F.length) : askF P F = 2 ↔ (F.filter P).length = 0 := by
 unfold askF settledR
 constructor
 ·intro h
  split at h
  ·cases h
  ·split at h
   ·omega
   ·cases h
 ·intro h
  rw [if_neg (by omega),if_pos (by omega)]
theorem ask_all {α : Type} {P : α → Bool} {F : List α} : askF P F = 1 ↔ ∀ x ∈ F,P x = true := by
 rw [ask_must]; exact List.length_filter_eq_length_iff
theorem idxF_congr {p q : Nat → Bool} {n : Nat} (h : ∀ i,i < n → p i = q i) : idxF p n = idxF q n := by
 unfold idxF
 rw [List.filter_congr fun i hi => h i (List.mem_range.1 hi)]
theorem cntL_at {f : Nat → Nat → Nat} {n i k : Nat} (h : k < n) : (cntL f n i 0)[k]! = ((f k i : Nat) : Int) := by
 unfold cntL
 rw [getD_any (by simpa using h),List.getElem_map,List.getElem_range,if_neg (by omega)]
theorem allI_ask {α : Type} (P : Nat → α → Bool) (F : List α) (f : Nat → Nat → Nat) (n : Nat) (e : ∀ k,f k F.length = (F.filter (P k)).length) : allI (cntL f n F.length 0) (F.length : Nat) n = idxF (fun k => decide (askF (P k) F = 1)) n := by
 unfold allI
 refine idxF_congr fun k hk => ?_
 rw [cntL_at hk,e,decide_eq_decide,ask_must]
 omega
theorem anyI_ask {α : Type} (P : Nat → α → Bool) (F : List α) (f : Nat → Nat → Nat) (n : Nat) (hF : 0 < F.length) (e : ∀ k,f k F.length = (F.filter (P k)).length) : anyI (cntL f n F.length 0) n = idxF (fun k => !decide (askF (P k) F = 2)) n := by
 unfold anyI
 refine idxF_congr fun k hk => ?_
 rw [cntL_at hk,e,← decide_not,decide_eq_decide,ask_never hF]
 omega
def orS (b : RBook) (T : List RTru) : Nat := T.foldl (fun s t => s ||| canS b (fateF b.harb t)) 0
theorem orFrom_bit (b : RBook) (i : Nat) : ∀ (T : List RTru) (s : Nat),(T.foldl (fun s t => s ||| canS b (fateF b.harb t)) s).testBit i = (s.testBit i || T.any fun t => (canS b (fateF b.harb t)).testBit i)
 | [],s => by simp
 | t :: T,s => by rw [List.foldl_cons,orFrom_bit b i T,Nat.testBit_or,List.any_cons,Bool.or_assoc]
theorem orS_bit {b : RBook} (hb : BOk b) (T : List RTru) {a k : Nat} (ha : a < b.answers.length) (hk : k < b.harb.letters.length) : (orS b T).testBit (a * 4 + k) = metC b T a k T.length := by
 unfold orS metC
 rw [orFrom_bit,Nat.zero_testBit,Bool.false_or,any_range (fun t => canR b t a k) T]
 congr 1
 funext t
 rw [canS_bit hb ha hk,canF_R hb ha hk]
theorem could_bits {b : RBook} (hb : BOk b) (T : List RTru) {a : Nat} (ha : a < b.answers.length) : couldC b T a b.harb.letters.length = idxF (fun k => (orS b T).testBit (a * 4 + k)) b.harb.letters.length := by
 unfold couldC idxF
 rw [List.filter_congr fun k hk => (orS_bit hb T ha (List.mem_range.1 hk)).symm]
theorem orS_lt {b : RBook} (hb : BOk b) (T : List RTru) : orS b T < 2 ^ 12 := by
 have h3 := hb.n
 have key : ∀ (T : List RTru) (s : Nat),s < 2 ^ 12 → T.foldl (fun s t => s ||| canS b (fateF b.harb t)) s < 2 ^ 12 := by
  intro T
  induction T with
  | nil => intro s hs; exact hs
  | cons t T ih =>
   intro s hs
   rw [List.foldl_cons]
   refine ih _ (Nat.or_lt_two_pow hs ?_)
   exact Nat.lt_of_lt_of_le (setOf_lt _ _) (Nat.pow_le_pow_right (by decide) (by omega))
 exact key T 0 (by decide)
def fatsOf (h : RHarb) (L : List (List Fate)) : List (List (List (Int × Int))) := (L.filter (trueB h [])).map fun x => fateF h (truOf h [] x)
theorem fatsOf_snoc (h : RHarb) (L : List (List Fate)) (x : List Fate) : fatsOf h (L ++ [x]) = if trueB h [] x = true then fatsOf h L ++ [fateF h (truOf h [] x)] else fatsOf h L := by
 unfold fatsOf
 rw [List.filter_append,List.map_append,List.filter_cons]
 by_cases q : trueB h [] x = true
 ·rw [if_pos q,if_pos q]; rfl
 ·rw [if_neg q,if_neg q]; exact List.append_nil _
theorem fatsOf_length (h : RHarb) (L : List (List Fate)) : (fatsOf h L).length ≤ L.length := by
 unfold fatsOf; rw [List.length_map]; exact List.length_filter_le _ _
theorem fatsOf_all (h : RHarb) : fatsOf h (fleetsR h.ships h.lost) = (truthsR h []).map (fateF h) := by
 unfold fatsOf truthsR; rw [List.map_map]; rfl
theorem fats_cells : ∀ L : List (List (List (Int × Int))),((L.map fateFA).map AV.cells).flatten = L.map fateFA
 | [] => rfl
 | x :: L => by
  have ih := fats_cells L
  simp only [List.map_cons,List.flatten_cons,ih]
  rfl
theorem fats_snoc (L : List (List (List (Int × Int)))) (x : List (List (Int × Int))) : ((L.map fateFA ++ [AV.slice 1 (x.map visLA)]).map AV.cells).flatten = (L ++ [x]).map fateFA := by
 have : L.map fateFA ++ [AV.slice 1 (x.map visLA)] = (L ++ [x]).map fateFA := by rw [List.map_append]; rfl
 rw [this,fats_cells]
theorem fats_flat (L : List (List (List (Int × Int)))) : ∀ x ∈ L.map fateFA,x.cells.length = 1 ∧ x.cells.all flat = true := by
 intro x hx
 obtain ⟨f,_,rfl⟩ := List.mem_map.1 hx
 exact ⟨rfl,rfl⟩
def bookV (b : RBook) (A : AV) : AV := .agg (harbL b.harb ++ [ints b.words,.int .i64 b.back,A])
theorem bookV_A (b : RBook) : bookV b (.slice 3 (b.answers.map ansA)) = bookA b := rfl
structure FHold (b : RBook) (A : AV) (m0 : Mem) (bk km : Nat) (L : List (List (List (Int × Int)))) (S : Nat → Prop) (m : Mem) : Prop where
 sub : ∀ k y,m0 k = some y → m k = some y
 ck : m km = some (.map [])
 cf : ∃ fb cap tail,m bk = some (.cells (bookC b A (.mslice fb 0 L.length cap) (.map km) b.answers.length)) ∧ ((cap = 0 ∧ L = [] ∧ tail = []) ∨ (m fb = some (.cells (L.map fateFA ++ tail)) ∧ m0 fb = none ∧ ¬ S fb ∧ fb ≠ bk ∧ fb ≠ km)) ∧ L.length ≤ cap ∧ cap ≤ maxLen ∧ tail.length = (cap - L.length) * 1
theorem FHold.keeps {b : RBook} {A : AV} {m0 : Mem} {bk km : Nat} {L : List (List (List (Int × Int)))} {S : Nat → Prop} {m m' : Mem} (h : FHold b A m0 bk km L S m) (h1 : ∀ k,S k → m0 k = none) (h2 : ¬ S bk) (h4 : ¬ S km) (hk : Keeps S m m') : FHold b A m0 bk km L S m' := by
 obtain ⟨g1,g3,fb,cap,tail,g4,g5,g6⟩ := h
 refine ⟨fun k y hy => hk k y (fun hs => by rw [h1 k hs] at hy; cases hy) (g1 k y hy),hk _ _ h4 g3,fb,cap,tail,hk _ _ h2 g4,?_,g6⟩
 rcases g5 with g5 | ⟨g5,w1,w2,w3⟩
 ·exact .inl g5
 ·exact .inr ⟨hk _ _ w2 g5,w1,w2,w3⟩
structure Looked (b : RBook) (A : AV) (bk : Nat) (m : Mem) : Prop where
 bk : ∃ fb cap km kv tail,m bk = some (.cells (bookC b A (.mslice fb 0 (truthsR b.harb []).length cap) (.map km) (leastR b))) ∧ m fb = some (.cells (((truthsR b.harb []).map (fateF b.harb)).map fateFA ++ tail)) ∧ (truthsR b.harb []).length ≤ cap ∧ m km = some (.map kv) ∧
  KnownO b.answers.length b.harb.letters.length kv m ∧ ∀ t ∈ truthsR b.harb [],∃ x,(AV.int .i64 (canS b (fateF b.harb t) : Nat),x) ∈ kv
 ans : AnsIn b.answers A m
theorem ownsC_at : ∀ (L : List (List Int)) (tail : List AV) (k : Nat),k < L.length → ∃ r,(ownsC L ++ tail).drop (k * 3) = (ownE (L[k]!)).map (AV.int .i64) ++ r
 | [],_,_,h => by cases h
 | x :: L,tail,0,_ => ⟨ownsC L ++ tail,by unfold ownsC; simp [ownA,AV.cells]⟩
 | x :: L,tail,k + 1,h => by
  obtain ⟨r,e⟩ := ownsC_at L tail k (by simpa using h)
  refine ⟨r,?_⟩
  rw [show (x :: L)[k + 1]! = L[k]! from rfl,← e]
  have hx : ownsC (x :: L) = (ownE x).map (AV.int .i64) ++ ownsC L := by unfold ownsC; simp [ownA,AV.cells]
  rw [hx,List.append_assoc,List.drop_append,List.drop_eq_nil_of_le (by rw [ownE_mlen]; omega),ownE_mlen,List.nil_append]
  congr 1
  omega
theorem own_drop {L : List (List Int)} {tail : List AV} {k : Nat} (h : k < L.length) : ((ownsC L ++ tail).drop (k * 3)).take 3 = (ownE (L[k]!)).map (AV.int .i64) ∧ 3 ≤ ((ownsC L ++ tail).drop (k * 3)).length := by
 obtain ⟨r,e⟩ := ownsC_at L tail k h
 have hl := ownE_mlen (L[k]!)
 rw [e]
 exact ⟨by rw [List.take_append_of_le_length (by omega),List.take_of_length_le (by omega)],by rw [List.length_append]; omega⟩
theorem ownsC_book {b : RBook} {A F K : AV} {n : Int} {L : List (List Int)} {tail : List AV} (h : L ≠ []) : bookC b A F K n ≠ ownsC L ++ tail := by
 match L,h with
 | w :: L,_ =>
  intro e
  have e2 := congrArg (fun l => l[2]?) e
  have hx : ownsC (w :: L) = (ownE w).map (AV.int .i64) ++ ownsC L := by unfold ownsC; simp [ownA,AV.cells]
  have h3 := ownE_mlen w
  rw [hx] at e2
  simp only [List.append_assoc] at e2
  rw [List.getElem?_append_left (by omega),List.getElem?_map] at e2
  simp only [bookC,harbL,List.cons_append,List.getElem?_cons_succ,List.getElem?_cons_zero] at e2
  have h4 := ownE_length w
  rw [List.getElem?_eq_getElem (by omega)] at e2
  simp at e2
theorem fats_at (h : RHarb) (T : List RTru) (tail : List AV) {i : Nat} (hi : i < T.length) : ∃ r,((T.map (fateF h)).map fateFA ++ tail).drop i = .slice 1 ((fateF h (T[i]!)).map visLA) :: r := by
 have hl : i < (((T.map (fateF h)).map fateFA ++ tail)).length := by simp; omega
 refine ⟨((T.map (fateF h)).map fateFA ++ tail).drop (i + 1),?_⟩
 rw [List.drop_eq_getElem_cons hl,List.getElem_append_left (by simp; omega),List.getElem_map,List.getElem_map,getD_any hi]
 rfl
structure LookM (b : RBook) (A : AV) (m0 : Mem) (bk fb cap km : Nat) (tail : List AV) (least : Int) (kv : List (AV × AV)) (m : Mem) : Prop where
 sub : ∀ k y,m0 k = some y → m k = some y
 cb : m bk = some (.cells (bookC b A (.mslice fb 0 (truthsR b.harb []).length cap) (.map km) least))
 cf : m fb = some (.cells (((truthsR b.harb []).map (fateF b.harb)).map fateFA ++ tail))
 ck : m km = some (.map kv)
 kn : KnownO b.answers.length b.harb.letters.length kv m
theorem LookM.put {b : RBook} {A : AV} {m0 : Mem} {bk fb cap km : Nat} {tail : List AV} {least : Int} {kv : List (AV × AV)} {m : Mem} (h : LookM b A m0 bk fb cap km tail least kv m) (h0 : m0 bk = none) (h1 : fb ≠ bk) (h2 : km ≠ bk) (n : Int) :
  LookM b A m0 bk fb cap km tail n kv (upd m bk (some (.cells (bookC b A (.mslice fb 0 (truthsR b.harb []).length cap) (.map km) n)))) where
 sub k y hy := by
  have := ne_of_some hy h0
  rw [upd_ne _ _ this]; exact h.sub _ _ hy
 cb := upd_same _ _ _
 cf := by rw [upd_ne _ _ h1]; exact h.cf
 ck := by rw [upd_ne _ _ h2]; exact h.ck
 kn := fun e he => by
  obtain ⟨s,wb,c,t,g1,g2,g3⟩ := h.kn e he
  have : wb ≠ bk := fun q => by
   rw [q,h.cb] at g2
   injection g2 with g2
   injection g2 with g2
   exact ownsC_book (waysD_ne _ _ _ _) g2
  exact ⟨s,wb,c,t,g1,by rw [upd_ne _ _ this]; exact g2,g3⟩
theorem LookM.keeps {b : RBook} {A : AV} {m0 : Mem} {bk fb cap km : Nat} {tail : List AV} {least : Int} {kv kv' : List (AV × AV)} {m m' : Mem} (h : LookM b A m0 bk fb cap km tail least kv m) (h0 : m0 km = none) (h1 : fb ≠ km) (h2 : bk ≠ km)
  (hk : Keeps (fun k => k = km) m m') (hc : m' km = some (.map kv')) (hn : KnownO b.answers.length b.harb.letters.length kv' m') : LookM b A m0 bk fb cap km tail least kv' m' where
 sub _ _ hy := hk _ _ (ne_of_some hy h0) (h.sub _ _ hy)
 cb := hk _ _ h2 h.cb
 cf := hk _ _ h1 h.cf
 ck := hc
 kn := hn
theorem rlook_c (b : RBook) (hb : BOk b) (A : AV) (m : Mem) (hA : AnsIn b.answers A m) :
  ACall Try.prog 30 [bookV b A] m fun r m' => ∃ bk,r = .ptr bk 0 ∧ (∀ k y,m k = some y → m' k = some y) ∧ Looked b A bk m' := by
 have hh := hb.h
 have hna := hb.n
 have hfl := fleets_len hh
 have hfo := fun (i : Nat) (q : i < (truthsR b.harb []).length) => fateF_length b.harb ((truthsR b.harb [])[i]!)
 have hvoy := fun bk => voyagesF_c bk
 have hvo1 := fun (F K : AV) (least : Int) (bk l : Nat) (m : Mem) hbk (J : (Nat → Prop) → List (List Fate) → Mem → Prop) => voyages1_c b hh A F K least bk l m hbk (J := J)
 have hfate := fun (F K : AV) (least : Int) (bk lb : Nat) (x : List Fate) (hx : FOk b.harb x) (m : Mem) => fate_c b hh A F K least bk lb x hx m
 have hA0 := hA
 have hAm : ∀ m1,(∀ k y,m k = some y → m1 k = some y) → AnsIn b.answers A m1 := fun m1 hs => by
  rcases hA with h | ⟨bb,c,t,h1,h2,h3⟩
  ·exact .inl h
  ·exact .inr ⟨bb,c,t,h1,hs _ _ h2,h3⟩
 have hT := fun (i : Nat) (q : i < (truthsR b.harb []).length) => truths_tok hh (but := []) (t := (truthsR b.harb [])[i]!) (by rw [getD_any q]; exact List.getElem_mem q)
 have htl := truths_len hh []
 have hown := fun (F : AV) (least : Int) (bk km : Nat) (kv : List (AV × AV)) (m : Mem) (i : Nat) (q : i < (truthsR b.harb []).length) h1 h2 => owns_c b hb (fateF b.harb ((truthsR b.harb [])[i]!)) (fate_ok hh (hT i q)) A F least bk km kv m h1 h2
 have hstr := fun (F K : AV) (least : Int) (bk : Nat) (w : List Int) (hw : w.length = b.answers.length) (m : Mem) => strays_c b hb A F K least bk w hw m
 have hls := fun i => leastTo_succ (b := b) (n := i)
 have hms := fun (m : Int) (l : List (List Int)) (k : Nat) => minIn_succ (m := m) (l := l) (k := k)
 have hla := leastTo_all b
 have hwR := waysS_R hb
 have hwl := fun t => waysR_length hb t
 have hwa := fun (t : RTru) (k : Nat) (q : k < (waysR b t).length) => waysR_at (b := b) (t := t) q
 have hlz : leastTo b 0 = (b.answers.length : Int) := rfl
 rcases hA with rfl | ⟨bb,acap,atail,rfl,hbb,hcap⟩
 ·simp only [bookV,bookC,harbL,ints,List.cons_append,List.nil_append] at *
  (refine acall_intro (E := envC (modeAt [3,10] [17]) false []) (envCOk _ _ _) rfl Try.func30 rfl Try.call30 (by kernel_rfl) (by simp [Try.ntmps30]) ?_; simp only [Try.f30];  simp(maxSteps:=9^9)only[↓VX,VQ,seval,buildV])
  repeat'(first|intro _|apply And.intro)
  all_goals try first|omega|(simp only[LL];omega)|exact nlC (by decide) _|exact nbC rfl
  rename_i km hkm _ bk hbk
  have nkb : bk ≠ km := by rintro rfl; simp at hbk
  have hbk0 : m bk = none := by simpa [nkb] using hbk
  (refine ACall.pure (hvoy bk) ?_; try simp(maxSteps:=9^9)only[↓VX,VQ,seval])
  refine ARange.freeze 3 ?_
  refine arange rfl (f := 49) (first := []) (caps := [.eptr [.ptr bk 0]]) (by simp(maxSteps:=9^9)only[↓VX,VQ,seval]) ?_
  intro l hl
  have nlb : l ≠ bk := by rintro rfl; simp [upd,St.freeze] at hl
  have nlk : l ≠ km := by rintro rfl; simp [upd,St.freeze,nkb.symm] at hl
  have hl0 : m l = none := by simpa [upd,St.freeze,nlb,nlk] using hl
  generalize hR : LoopA.mk _ _ _ _ _ = R
  have hyok : ∀ P : Nat → Prop,(∀ k,P k → (k ≠ l ∧ k ≠ bk ∧ k ≠ km) ∧ m k = none) → VTok b.harb P l (fun L m1 => m1 l = some (.loop .ready none R) ∧ FHold b (.slice 3 (b.answers.map ansA)) m bk km (fatsOf b.harb L) (fun k => P k ∨ k = l) m1) := by
   intro P hP
   refine ⟨fun pre m1 m2 hJ hk => ?_,fun pre x lb m1 hpl hPl hx hJ hlb hPn => ?_⟩
   ·refine ⟨hk _ _ (fun h => (hP l h).1.1 rfl) hJ.1,hJ.2.keeps ?_ ?_ ?_ (hk.sub fun k h => .inl h)⟩
    ·rintro k (h | rfl)
     ·exact (hP k h).2
     ·exact hl0
    ·rintro (h | h)
     ·exact (hP _ h).1.2.1 rfl
     ·exact nlb h.symm
    ·rintro (h | h)
     ·exact (hP _ h).1.2.2 rfl
     ·exact nlk h.symm
   ·obtain ⟨j3,j4⟩ := hJ
    subst hR
    refine ayield (E := envC (modeAt [3,10] [17]) true []) (envCOk _ _ _) rfl j3 rfl (by rfl) (by rfl) (by rfl) ?_
    have hJ := j4
    obtain ⟨g1,g3,fb,cap,tail,g4,g5,g6,g7,g8⟩ := j4
    have g4' := g4
    have hlen1 := fatsOf_length b.harb pre
    simp only [bookC,harbL,ints,List.cons_append,List.nil_append] at g4'
    have hke : ∀ m3,(∀ k,k ≠ l → m3 k = m1 k) → Keeps (fun k => P k ∨ k = l) m1 m3 := fun m3 h => ⟨fun k y hs hy => by rw [h k fun e => hs (.inr e)]; exact hy⟩
    have hP0 := fun k (h : P k) => hP k h
    simp(maxSteps:=9^9)only[↓VX,VQ,seval,j3]
    refine ACall.told (hfate (.mslice fb 0 (fatsOf b.harb pre).length cap) (.map km) b.answers.length bk lb x hx _ (by rw [upd_ne _ _ nlb.symm]; exact g4) (by rw [upd_ne _ _ (hP lb hPl).1.1]; exact hlb)) ?_
    rintro r2 m2 ⟨rfl,rfl⟩
    have hsn := fatsOf_snoc b.harb pre x
    unfold fateR
    by_cases hT : trueB b.harb [] x = true
    ·rw [if_pos hT] at hsn ⊢
     simp(maxSteps:=9^9)only[↓VX,VQ,seval]
     (refine adraw (by first | exact envOk _ | exact envCOk _ _ _) mixed [⟨true,false,0⟩,⟨false,false,0⟩,⟨false,false,0⟩,⟨false,false,0⟩,⟨false,false,0⟩,⟨false,false,0⟩,⟨false,false,0⟩,⟨false,false,2⟩,⟨false,false,0⟩,⟨false,false,0⟩,⟨false,false,0⟩] (by kernel_rfl) ?_; show vcOpsD _ _ _ (_ :: _) _ _)
     simp(maxSteps:=9^9)only[↓VX,VQ,seval,j3,g4',nlb,nlb.symm,vcAppE,vcSome,fateFA]
     have hfl2 : ∀ fb,¬ (P fb ∨ fb = l) → fb ≠ l := fun _ h e => h (.inr e)
     refine ⟨(fatsOf b.harb pre).map fateFA,tail,?_,⟨?_,?_,?_,?_,?_⟩,?_,?_⟩
     ·rcases g5 with ⟨e1,e2,e3⟩ | ⟨g5,w1,w2,w3,w4⟩
      ·exact .inl ⟨e1,by rw [e2]; rfl,e3⟩
      ·exact .inr (by rw [if_neg (hfl2 _ w2),fats_cells]; exact g5)
     ·rw [List.length_map]
     ·exact g6
     ·exact g7
     ·omega
     ·exact ⟨fats_flat _,by rw [List.length_map]; omega⟩
     ·rw [List.length_map]
      intro hc
      rcases g5 with ⟨rfl,_,_⟩ | ⟨g5,w1,w2,w3,w4⟩
      ·omega
      rw [if_neg w3.symm]
      have hlf : l ≠ fb := (hfl2 _ w2).symm
      simp(maxSteps:=9^9)only[↓VX,VQ,seval,hlf,nlb,nlb.symm]
      refine ⟨?_,fun k y hk hy => ?_⟩
      ·rw [hsn]
       refine ⟨fun k y hy => ?_,?_,fb,cap,tail.drop 1,?_,.inr ⟨?_,w1,w2,w3,w4⟩,?_,g7,?_⟩
       ·have d1 := ne_of_some hy hl0
        have d2 := ne_of_some hy hbk0
        have d3 := ne_of_some hy w1
        simp only [upd,if_neg d1,if_neg d2,if_neg d3]
        exact g1 _ _ hy
       ·simp only [upd,if_neg nlk.symm,if_neg nkb.symm,if_neg w4.symm]
        exact g3
       ·rw [List.length_append]
        simp only [upd,if_neg nlb.symm,if_true,bookC,harbL,ints,List.cons_append,List.nil_append]
        rfl
       ·simp only [upd,if_neg (hfl2 _ w2),if_neg w3,if_true]
        rw [fats_snoc]
       ·rw [List.length_append]; exact hc
       ·rw [List.length_append]; simp only [List.length_drop,List.length_cons,List.length_nil]; omega
      ·have d1 := (hP k hk).1
       have d2 : k ≠ fb := fun e => w2 (.inl (by rw [← e]; exact hk))
       simp only [upd,if_neg d1.1,if_neg d1.2.1,if_neg d2]
       exact hy
     ·rw [List.length_map]
      intro hc b' cap' tail' n1 n2 n3 n4
      have hb1 : b' ≠ l := fun e => by rw [if_pos e] at n1; cases n1
      rw [if_neg hb1] at n1
      have w1 : m b' = none := by
       cases hx : m b' with
       | none => rfl
       | some y => rw [g1 _ _ hx] at n1; cases n1
      have w2 : ¬ (P b' ∨ b' = l) := fun h => h.elim (fun h => hPn _ h n1) hb1
      have w3 : b' ≠ bk := fun e => by rw [e,g4] at n1; cases n1
      have w4 : b' ≠ km := fun e => by rw [e,g3] at n1; cases n1
      rw [if_neg w3.symm]
      simp(maxSteps:=9^9)only[↓VX,VQ,seval,hb1,hb1.symm,nlb,nlb.symm]
      refine ⟨?_,fun k y hk hy => ?_⟩
      ·rw [hsn]
       refine ⟨fun k y hy => ?_,?_,b',cap',tail',?_,.inr ⟨?_,w1,w2,w3,w4⟩,?_,n3,?_⟩
       ·have d1 := ne_of_some hy hl0
        have d2 := ne_of_some hy hbk0
        have d3 := ne_of_some hy w1
        simp only [upd,if_neg d1,if_neg d2,if_neg d3]
        exact g1 _ _ hy
       ·simp only [upd,if_neg nlk.symm,if_neg nkb.symm,if_neg w4.symm]
        exact g3
       ·rw [List.length_append]
        simp only [upd,if_neg nlb.symm,if_true,bookC,harbL,ints,List.cons_append,List.nil_append]
        rfl
       ·simp only [upd,if_neg (hfl2 _ w2),if_neg w3,if_true]
        rw [fats_snoc]
       ·rw [List.length_append]; exact n2
       ·rw [List.length_append]; simp only [List.length_cons,List.length_nil]; omega
      ·have d1 := (hP k hk).1
       have d2 : k ≠ b' := fun e => w2 (.inl (by rw [← e]; exact hk))
       simp only [upd,if_neg d1.1,if_neg d1.2.1,if_neg d2]
       exact hy
    ·rw [if_neg hT] at hsn ⊢
     simp(maxSteps:=9^9)only[↓VX,VQ,seval,j3,nlb,nlb.symm]
     refine ⟨?_,?_⟩
     ·rw [hsn]
      refine hJ.keeps ?_ ?_ ?_ (hke _ fun k hk => by simp only [upd,if_neg hk])
      ·rintro k (h | rfl)
       ·exact (hP k h).2
       ·exact hl0
      ·rintro (h | h)
       ·exact (hP _ h).1.2.1 rfl
       ·exact nlb h.symm
      ·rintro (h | h)
       ·exact (hP _ h).1.2.2 rfl
       ·exact nlk h.symm
     ·intro k y hk hy
      simp only [upd,if_neg (hP k hk).1.1]
      exact hy
  have hdom : ∀ P : Nat → Prop,(∀ k,P k → upd (upd (upd m km (some (.map []))) bk (some (.cells [.int .i64 b.harb.ports,.int .i64 b.harb.lost,.slice 5 (b.harb.ships.map shipA),.slice 3 (b.harb.letters.map letA),.slice 4 (b.harb.reports.map repA),.slice 1 (b.words.map (AV.int .i64)),.int .i64 b.back,(.slice 3 (b.answers.map ansA)),.mslice 0 0 0 0,.map km,.int .i64 b.answers.length]))) l (some (.loop .ready none R)) k = none) → ∀ k,P k → (k ≠ l ∧ k ≠ bk ∧ k ≠ km) ∧ m k = none := by
   intro P hP k hk
   have h1 := hP k hk
   have d1 : k ≠ l := fun e => by rw [e,upd_same] at h1; cases h1
   rw [upd_ne _ _ d1] at h1
   have d2 : k ≠ bk := fun e => by rw [e,upd_same] at h1; cases h1
   rw [upd_ne _ _ d2] at h1
   have d3 : k ≠ km := fun e => by rw [e,upd_same] at h1; cases h1
   rw [upd_ne _ _ d3] at h1
   exact ⟨⟨d1,d2,d3⟩,h1⟩
  refine ACall.mono (hvo1 (.mslice 0 0 0 0) (.map km) b.answers.length bk l _ ?_ (fun P L m1 => m1 l = some (.loop .ready none R) ∧ FHold b (.slice 3 (b.answers.map ansA)) m bk km (fatsOf b.harb L) (fun k => P k ∨ k = l) m1) (fun P hP => hyok P (hdom P hP)) ?_) ?_
  ·show upd _ _ _ bk = _
   rw [upd_ne _ _ nlb.symm]
   exact upd_same _ _ _
  ·intro P m' hP hm'
   have hd := hdom P hP
   have nPl : ¬ P l := fun h => (hd l h).1.1 rfl
   have nPb : ¬ P bk := fun h => (hd bk h).1.2.1 rfl
   have nPk : ¬ P km := fun h => (hd km h).1.2.2 rfl
   refine ⟨(hm' _ nPl).trans (upd_same _ _ _),⟨fun k y hy => ?_,?_,0,0,[],?_,.inl ⟨rfl,rfl,rfl⟩,?_,?_,?_⟩⟩
   ·have d1 := ne_of_some hy hl0
    have d2 := ne_of_some hy hbk0
    have d3 := ne_of_some hy hkm
    have d4 : ¬ P k := fun h => by rw [(hd k h).2] at hy; cases hy
    rw [hm' _ d4]
    show upd _ _ _ k = _
    rw [upd_ne _ _ d1]
    show upd (upd m km _) bk _ k = _
    rw [upd_ne _ _ d2,upd_ne _ _ d3]
    exact hy
   ·rw [hm' _ nPk]
    show upd _ _ _ km = _
    rw [upd_ne _ _ nlk.symm]
    show upd (upd m km _) bk _ km = _
    rw [upd_ne _ _ nkb.symm,upd_same]
   ·rw [hm' _ nPb]
    show upd _ _ _ bk = _
    rw [upd_ne _ _ nlb.symm]
    exact upd_same _ _ _
   ·simp [fatsOf]
   ·decide
   ·simp [fatsOf]
  ·rintro r m' ⟨P,hP,j3,hF⟩
   rw [fatsOf_all] at hF
   clear hyok hdom hvo1 hvoy hfate
   obtain ⟨g1,g3,fb,cap,tail,g4,g5,g6,g7,g8⟩ := hF
   have hd := hP
   obtain ⟨g5x,w1,w2,w3,w4⟩ := g5.resolve_left fun e => by
    have := congrArg List.length e.2.1
    rw [List.length_map] at this
    exact hb.t (List.eq_nil_of_length_eq_zero this)
   have nfl : fb ≠ l := fun e => w2 (.inr e)
   have g4' := g4
   simp only [bookC,harbL,ints,List.cons_append,List.nil_append,List.length_map] at g4'
   rw [List.length_map] at g6
   simp(maxSteps:=9^9)only[↓VX,VQ,seval,j3,g4',nlb,nlb.symm,nfl,nfl.symm,St.freeze]
   clear hd hP g5 j3
   have hM0 : LookM b (.slice 3 (b.answers.map ansA)) m bk fb cap km tail (leastTo b 0) [] (upd m' l none) := by
    have e1 : ∀ k,k ≠ l → upd m' l none k = m' k := fun k h => upd_ne _ _ h
    refine ⟨fun k y hy => ?_,?_,?_,?_,?_⟩
    ·rw [e1 _ (ne_of_some hy hl0)]; exact g1 _ _ hy
    ·rw [e1 _ nlb.symm,g4,List.length_map,hlz]
    ·rw [e1 _ nfl]; exact g5x
    ·rw [e1 _ nlk.symm]; exact g3
    ·intro e he; cases he
   generalize upd m' l none = M0 at hM0 ⊢
   clear g1 g3 g4 g4' g5x g8 m'
   refine aloop (envCOk _ _ _) (fun x : Nat × List (AV × AV) × Mem => ⟨[(3,.v (.eptr [.ptr bk 0])),(41,.v (.mslice fb 0 (truthsR b.harb []).length cap)),(42,.v (.int .i64 (truthsR b.harb []).length)),(43,.v (.int .i64 x.1))],[],[],x.2.2⟩)
    (fun x => x.1 ≤ (truthsR b.harb []).length ∧ LookM b (.slice 3 (b.answers.map ansA)) m bk fb cap km tail (leastTo b x.1) x.2.1 x.2.2 ∧ ∀ j,j < x.1 → ∃ y,(AV.int .i64 (canS b (fateF b.harb ((truthsR b.harb [])[j]!)) : Nat),y) ∈ x.2.1) (fun x => (truthsR b.harb []).length - x.1) (0,[],M0) (fun _ => rfl) ⟨Nat.zero_le _,hM0,fun j hj => absurd hj (Nat.not_lt_zero _)⟩ (by (simp only [FE,↓FP,seval]); try simp [St.freeze]) ?_
   rintro ⟨i,kv,mi⟩ ⟨hi,hMi,hki⟩
   dsimp only at hi hMi hki
   have hcb := hMi.cb
   have hcf := hMi.cf
   simp only [bookC,harbL,ints,List.cons_append,List.nil_append] at hcb
   have hown1 := fun F least bk km kv m => hown F least bk km kv m i
   have hls1 := hls i
   by_cases hil : i < (truthsR b.harb []).length
   ·obtain ⟨rr,hd1⟩ := fats_at b.harb (truthsR b.harb []) tail hil
    simp(maxSteps:=9^9)only[↓VX,VQ,seval,hcb,hcf,hd1]
    repeat'(first|intro _|apply And.intro)
    all_goals try first|omega|(simp only[LL];omega)|exact nlC (by decide) _|exact nbC rfl
    have hls2 := hls1 hil
    refine ACall.told (hown1 (.mslice fb 0 (truthsR b.harb []).length cap) (leastTo b i) bk km kv mi hil hMi.cb (hAm _ hMi.sub) hMi.ck hMi.kn (waysR b ((truthsR b.harb [])[i]!)) (hwR _).symm (by have := hwl ((truthsR b.harb [])[i]!); omega)) ?_
    rintro r2 m2 ⟨wb,wcap,wtail,kv2,rfl,o1,o2,o3,o4,o5,o6,o7,_⟩
    have hM2 := hMi.keeps hkm w4 nkb o5 o3 o4
    have hk2 : ∀ j,j < i + 1 → ∃ y,(AV.int .i64 (canS b (fateF b.harb ((truthsR b.harb [])[j]!)) : Nat),y) ∈ kv2 := fun j hj => by
     by_cases hje : j = i
     ·subst hje; exact ⟨_,o7⟩
     ·obtain ⟨y,hy⟩ := hki j (by omega)
      exact ⟨y,o6 _ hy⟩
    have hwn : waysR b ((truthsR b.harb [])[i]!) ≠ [] := by rw [← hwR]; exact waysD_ne _ _ _ _
    have hwa1 := hwa ((truthsR b.harb [])[i]!)
    have hwl1 := hwl ((truthsR b.harb [])[i]!)
    generalize waysR b ((truthsR b.harb [])[i]!) = W at *
    have hms1 := hms (leastTo b i) W
    clear hown1 hcb hcf hd1 hMi hki hown
    simp(maxSteps:=9^9)only[↓VX,VQ,seval]
    repeat'(first|intro _|apply And.intro)
    all_goals try first|omega|(simp only[LL];omega)|exact nlC (by decide) _|exact nbC rfl
    refine aloop (envCOk _ _ _) (fun x : Nat × Mem => ⟨[(3,.v (.eptr [.ptr bk 0])),(41,.v (.mslice fb 0 (truthsR b.harb []).length cap)),(42,.v (.int .i64 (truthsR b.harb []).length)),(43,.v (.int .i64 i)),(49,.v (.mslice wb 0 W.length wcap)),(50,.v (.int .i64 W.length)),(51,.v (.int .i64 x.1))],[],[],x.2⟩)
     (fun x => x.1 ≤ W.length ∧ LookM b (.slice 3 (b.answers.map ansA)) m bk fb cap km tail (minIn (leastTo b i) W x.1) kv2 x.2 ∧ x.2 wb = some (.cells (ownsC W ++ wtail))) (fun x => W.length - x.1) (0,m2) (fun _ => rfl) ⟨Nat.zero_le _,hM2,o1⟩ (by (simp only [FE,↓FP,seval]); try simp) ?_
    rintro ⟨k,mk⟩ ⟨hk,hMk,hwk⟩
    dsimp only at hk hMk hwk
    have hcb := hMk.cb
    simp only [bookC,harbL,ints,List.cons_append,List.nil_append] at hcb
    by_cases hkl : k < W.length
    ·obtain ⟨hd1,hd2⟩ := own_drop (L := W) (tail := wtail) hkl
     have hms2 := hms1 k hkl
     have hst := hstr (.mslice fb 0 (truthsR b.harb []).length cap) (.map km) (minIn (leastTo b i) W k) bk (W[k]!) (hwa1 k hkl) mk hMk.cb (hAm _ hMk.sub)
     have hst2 := hMk.put hbk0 w3 nkb.symm (minIn (leastTo b i) W (k + 1))
     have hwb : wb ≠ bk := fun q => by
      rw [q,hMk.cb] at hwk
      injection hwk with hwk
      injection hwk with hwk
      exact ownsC_book hwn hwk
     have hfl3 := ownE_flat (W[k]!)
     have hln3 := ownE_mlen (W[k]!)
     have htk3 := ownE_take (W[k]!)
     simp only [ownA] at hst
     simp(maxSteps:=9^9)only[↓VX,VQ,seval,hwk,hd1,hd2,hfl3,hln3,htk3]
     repeat'(first|intro _|apply And.intro)
     all_goals try first|omega|(simp only[LL];omega)|exact nlC (by decide) _|exact nbC rfl
     (refine adraw (by first | exact envOk _ | exact envCOk _ _ _) mixed [⟨false,false,0⟩,⟨false,false,0⟩,⟨false,false,0⟩,⟨false,false,0⟩,⟨false,false,0⟩,⟨false,false,0⟩,⟨false,false,0⟩,⟨false,false,0⟩,⟨false,false,0⟩,⟨false,false,0⟩,⟨false,false,0⟩,⟨false,false,0⟩] (by kernel_rfl) ?_; show vcOpsD _ _ _ (_ :: _) _ _)
     simp(maxSteps:=9^9)only[↓VX,VQ,seval,hcb,hfl3,hln3,htk3]
     repeat'(first|intro _|apply And.intro)
     all_goals try first|omega|(simp only[LL];omega)|exact nlC (by decide) _|exact nbC rfl
     refine VPure.at hst ?_
     simp(maxSteps:=9^9)only[↓VX,VQ,seval,hcb]
     repeat'(first|intro _|apply And.intro)
     all_goals try first|omega|(simp only[LL];omega)|exact nlC (by decide) _|exact nbC rfl
     refine ⟨(k + 1,upd mk bk (some (.cells (bookC b (.slice 3 (b.answers.map ansA)) (.mslice fb 0 (truthsR b.harb []).length cap) (.map km) (minIn (leastTo b i) W (k + 1)))))),⟨by dsimp only; omega,hst2,by dsimp only; rw [upd_ne _ _ hwb]; exact hwk⟩,by dsimp only; omega,?_⟩
     (simp only [FE,↓FP,seval])
     rw [hms2]
     exact ⟨by push_cast; rfl,rfl⟩
    ·have hke : k = W.length := by omega
     subst hke
     simp(maxSteps:=9^9)only[↓VX,VQ,seval]
     repeat'(first|intro _|apply And.intro)
     all_goals try first|omega|(simp only[LL];omega)|exact nlC (by decide) _|exact nbC rfl
     refine ⟨(i + 1,kv2,mk),⟨by dsimp only; omega,by dsimp only; rw [hls2]; exact hMk,hk2⟩,by dsimp only; omega,?_⟩
     (simp only [FE,↓FP,seval])
     try simp
   ·have hie : i = (truthsR b.harb []).length := by omega
    subst hie
    simp(maxSteps:=9^9)only[↓VX,VQ,seval]
    repeat'(first|intro _|apply And.intro)
    all_goals try first|omega|(simp only[LL];omega)|exact nlC (by decide) _|exact nbC rfl
    refine ⟨bk,rfl,hMi.sub,⟨fb,cap,km,kv,tail,?_,hMi.cf,g6,hMi.ck,hMi.kn,fun t ht => ?_⟩,hAm _ hMi.sub⟩
    ·rw [← hla]; exact hMi.cb
    ·obtain ⟨j,hj,rfl⟩ := List.mem_iff_getElem.1 ht
     have := hki j hj
     rw [getD_any hj] at this
     exact this
 ·simp only [bookV,bookC,harbL,ints,List.cons_append,List.nil_append] at *
  (refine acall_intro (E := envC (modeAt [3,10] [17]) false []) (envCOk _ _ _) rfl Try.func30 rfl Try.call30 (by kernel_rfl) (by simp [Try.ntmps30]) ?_; simp only [Try.f30];  simp(maxSteps:=9^9)only[↓VX,VQ,seval,buildV])
  repeat'(first|intro _|apply And.intro)
  all_goals try first|omega|(simp only[LL];omega)|exact nlC (by decide) _|exact nbC rfl
  rename_i km hkm bk hbk
  have nkb : bk ≠ km := by rintro rfl; simp at hbk
  have hbk0 : m bk = none := by simpa [nkb] using hbk
  (refine ACall.pure (hvoy bk) ?_; try simp(maxSteps:=9^9)only[↓VX,VQ,seval])
  refine ARange.freeze 3 ?_
  refine arange rfl (f := 49) (first := []) (caps := [.eptr [.ptr bk 0]]) (by simp(maxSteps:=9^9)only[↓VX,VQ,seval]) ?_
  intro l hl
  have nlb : l ≠ bk := by rintro rfl; simp [upd,St.freeze] at hl
  have nlk : l ≠ km := by rintro rfl; simp [upd,St.freeze,nkb.symm] at hl
  have hl0 : m l = none := by simpa [upd,St.freeze,nlb,nlk] using hl
  generalize hR : LoopA.mk _ _ _ _ _ = R
  have hyok : ∀ P : Nat → Prop,(∀ k,P k → (k ≠ l ∧ k ≠ bk ∧ k ≠ km) ∧ m k = none) → VTok b.harb P l (fun L m1 => m1 l = some (.loop .ready none R) ∧ FHold b (.mslice bb 0 b.answers.length acap) m bk km (fatsOf b.harb L) (fun k => P k ∨ k = l) m1) := by
   intro P hP
   refine ⟨fun pre m1 m2 hJ hk => ?_,fun pre x lb m1 hpl hPl hx hJ hlb hPn => ?_⟩
   ·refine ⟨hk _ _ (fun h => (hP l h).1.1 rfl) hJ.1,hJ.2.keeps ?_ ?_ ?_ (hk.sub fun k h => .inl h)⟩
    ·rintro k (h | rfl)
     ·exact (hP k h).2
     ·exact hl0
    ·rintro (h | h)
     ·exact (hP _ h).1.2.1 rfl
     ·exact nlb h.symm
    ·rintro (h | h)
     ·exact (hP _ h).1.2.2 rfl
     ·exact nlk h.symm
   ·obtain ⟨j3,j4⟩ := hJ
    subst hR
    refine ayield (E := envC (modeAt [3,10] [17]) true []) (envCOk _ _ _) rfl j3 rfl (by rfl) (by rfl) (by rfl) ?_
    have hJ := j4
    obtain ⟨g1,g3,fb,cap,tail,g4,g5,g6,g7,g8⟩ := j4
    have g4' := g4
    have hlen1 := fatsOf_length b.harb pre
    simp only [bookC,harbL,ints,List.cons_append,List.nil_append] at g4'
    have hke : ∀ m3,(∀ k,k ≠ l → m3 k = m1 k) → Keeps (fun k => P k ∨ k = l) m1 m3 := fun m3 h => ⟨fun k y hs hy => by rw [h k fun e => hs (.inr e)]; exact hy⟩
    have hP0 := fun k (h : P k) => hP k h
    simp(maxSteps:=9^9)only[↓VX,VQ,seval,j3]
    refine ACall.told (hfate (.mslice fb 0 (fatsOf b.harb pre).length cap) (.map km) b.answers.length bk lb x hx _ (by rw [upd_ne _ _ nlb.symm]; exact g4) (by rw [upd_ne _ _ (hP lb hPl).1.1]; exact hlb)) ?_
    rintro r2 m2 ⟨rfl,rfl⟩
    have hsn := fatsOf_snoc b.harb pre x
    unfold fateR
    by_cases hT : trueB b.harb [] x = true
    ·rw [if_pos hT] at hsn ⊢
     simp(maxSteps:=9^9)only[↓VX,VQ,seval]
     (refine adraw (by first | exact envOk _ | exact envCOk _ _ _) mixed [⟨true,false,0⟩,⟨false,false,0⟩,⟨false,false,0⟩,⟨false,false,0⟩,⟨false,false,0⟩,⟨false,false,0⟩,⟨false,false,0⟩,⟨false,false,2⟩,⟨false,false,0⟩,⟨false,false,0⟩,⟨false,false,0⟩] (by kernel_rfl) ?_; show vcOpsD _ _ _ (_ :: _) _ _)
     simp(maxSteps:=9^9)only[↓VX,VQ,seval,j3,g4',nlb,nlb.symm,vcAppE,vcSome,fateFA]
     have hfl2 : ∀ fb,¬ (P fb ∨ fb = l) → fb ≠ l := fun _ h e => h (.inr e)
     refine ⟨(fatsOf b.harb pre).map fateFA,tail,?_,⟨?_,?_,?_,?_,?_⟩,?_,?_⟩
     ·rcases g5 with ⟨e1,e2,e3⟩ | ⟨g5,w1,w2,w3,w4⟩
      ·exact .inl ⟨e1,by rw [e2]; rfl,e3⟩
      ·exact .inr (by rw [if_neg (hfl2 _ w2),fats_cells]; exact g5)
     ·rw [List.length_map]
     ·exact g6
     ·exact g7
     ·omega
     ·exact ⟨fats_flat _,by rw [List.length_map]; omega⟩
     ·rw [List.length_map]
      intro hc
      rcases g5 with ⟨rfl,_,_⟩ | ⟨g5,w1,w2,w3,w4⟩
      ·omega
      rw [if_neg w3.symm]
      have hlf : l ≠ fb := (hfl2 _ w2).symm
      simp(maxSteps:=9^9)only[↓VX,VQ,seval,hlf,nlb,nlb.symm]
      refine ⟨?_,fun k y hk hy => ?_⟩
      ·rw [hsn]
       refine ⟨fun k y hy => ?_,?_,fb,cap,tail.drop 1,?_,.inr ⟨?_,w1,w2,w3,w4⟩,?_,g7,?_⟩
       ·have d1 := ne_of_some hy hl0
        have d2 := ne_of_some hy hbk0
        have d3 := ne_of_some hy w1
        simp only [upd,if_neg d1,if_neg d2,if_neg d3]
        exact g1 _ _ hy
       ·simp only [upd,if_neg nlk.symm,if_neg nkb.symm,if_neg w4.symm]
        exact g3
       ·rw [List.length_append]
        simp only [upd,if_neg nlb.symm,if_true,bookC,harbL,ints,List.cons_append,List.nil_append]
        rfl
       ·simp only [upd,if_neg (hfl2 _ w2),if_neg w3,if_true]
        rw [fats_snoc]
       ·rw [List.length_append]; exact hc
       ·rw [List.length_append]; simp only [List.length_drop,List.length_cons,List.length_nil]; omega
      ·have d1 := (hP k hk).1
       have d2 : k ≠ fb := fun e => w2 (.inl (by rw [← e]; exact hk))
       simp only [upd,if_neg d1.1,if_neg d1.2.1,if_neg d2]
       exact hy
     ·rw [List.length_map]
      intro hc b' cap' tail' n1 n2 n3 n4
      have hb1 : b' ≠ l := fun e => by rw [if_pos e] at n1; cases n1
      rw [if_neg hb1] at n1
      have w1 : m b' = none := by
       cases hx : m b' with
       | none => rfl
       | some y => rw [g1 _ _ hx] at n1; cases n1
      have w2 : ¬ (P b' ∨ b' = l) := fun h => h.elim (fun h => hPn _ h n1) hb1
      have w3 : b' ≠ bk := fun e => by rw [e,g4] at n1; cases n1
      have w4 : b' ≠ km := fun e => by rw [e,g3] at n1; cases n1
      rw [if_neg w3.symm]
      simp(maxSteps:=9^9)only[↓VX,VQ,seval,hb1,hb1.symm,nlb,nlb.symm]
      refine ⟨?_,fun k y hk hy => ?_⟩
      ·rw [hsn]
       refine ⟨fun k y hy => ?_,?_,b',cap',tail',?_,.inr ⟨?_,w1,w2,w3,w4⟩,?_,n3,?_⟩
       ·have d1 := ne_of_some hy hl0
        have d2 := ne_of_some hy hbk0
        have d3 := ne_of_some hy w1
        simp only [upd,if_neg d1,if_neg d2,if_neg d3]
        exact g1 _ _ hy
       ·simp only [upd,if_neg nlk.symm,if_neg nkb.symm,if_neg w4.symm]
        exact g3
       ·rw [List.length_append]
        simp only [upd,if_neg nlb.symm,if_true,bookC,harbL,ints,List.cons_append,List.nil_append]
        rfl
       ·simp only [upd,if_neg (hfl2 _ w2),if_neg w3,if_true]
        rw [fats_snoc]
       ·rw [List.length_append]; exact n2
       ·rw [List.length_append]; simp only [List.length_cons,List.length_nil]; omega
      ·have d1 := (hP k hk).1
       have d2 : k ≠ b' := fun e => w2 (.inl (by rw [← e]; exact hk))
       simp only [upd,if_neg d1.1,if_neg d1.2.1,if_neg d2]
       exact hy
    ·rw [if_neg hT] at hsn ⊢
     simp(maxSteps:=9^9)only[↓VX,VQ,seval,j3,nlb,nlb.symm]
     refine ⟨?_,?_⟩
     ·rw [hsn]
      refine hJ.keeps ?_ ?_ ?_ (hke _ fun k hk => by simp only [upd,if_neg hk])
      ·rintro k (h | rfl)
       ·exact (hP k h).2
       ·exact hl0
      ·rintro (h | h)
       ·exact (hP _ h).1.2.1 rfl
       ·exact nlb h.symm
      ·rintro (h | h)
       ·exact (hP _ h).1.2.2 rfl
       ·exact nlk h.symm
     ·intro k y hk hy
      simp only [upd,if_neg (hP k hk).1.1]
      exact hy
  have hdom : ∀ P : Nat → Prop,(∀ k,P k → upd (upd (upd m km (some (.map []))) bk (some (.cells [.int .i64 b.harb.ports,.int .i64 b.harb.lost,.slice 5 (b.harb.ships.map shipA),.slice 3 (b.harb.letters.map letA),.slice 4 (b.harb.reports.map repA),.slice 1 (b.words.map (AV.int .i64)),.int .i64 b.back,(.mslice bb 0 b.answers.length acap),.mslice 0 0 0 0,.map km,.int .i64 b.answers.length]))) l (some (.loop .ready none R)) k = none) → ∀ k,P k → (k ≠ l ∧ k ≠ bk ∧ k ≠ km) ∧ m k = none := by
   intro P hP k hk
   have h1 := hP k hk
   have d1 : k ≠ l := fun e => by rw [e,upd_same] at h1; cases h1
   rw [upd_ne _ _ d1] at h1
   have d2 : k ≠ bk := fun e => by rw [e,upd_same] at h1; cases h1
   rw [upd_ne _ _ d2] at h1
   have d3 : k ≠ km := fun e => by rw [e,upd_same] at h1; cases h1
   rw [upd_ne _ _ d3] at h1
   exact ⟨⟨d1,d2,d3⟩,h1⟩
  refine ACall.mono (hvo1 (.mslice 0 0 0 0) (.map km) b.answers.length bk l _ ?_ (fun P L m1 => m1 l = some (.loop .ready none R) ∧ FHold b (.mslice bb 0 b.answers.length acap) m bk km (fatsOf b.harb L) (fun k => P k ∨ k = l) m1) (fun P hP => hyok P (hdom P hP)) ?_) ?_
  ·show upd _ _ _ bk = _
   rw [upd_ne _ _ nlb.symm]
   exact upd_same _ _ _
  ·intro P m' hP hm'
   have hd := hdom P hP
   have nPl : ¬ P l := fun h => (hd l h).1.1 rfl
   have nPb : ¬ P bk := fun h => (hd bk h).1.2.1 rfl
   have nPk : ¬ P km := fun h => (hd km h).1.2.2 rfl
   refine ⟨(hm' _ nPl).trans (upd_same _ _ _),⟨fun k y hy => ?_,?_,0,0,[],?_,.inl ⟨rfl,rfl,rfl⟩,?_,?_,?_⟩⟩
   ·have d1 := ne_of_some hy hl0
    have d2 := ne_of_some hy hbk0
    have d3 := ne_of_some hy hkm
    have d4 : ¬ P k := fun h => by rw [(hd k h).2] at hy; cases hy
    rw [hm' _ d4]
    show upd _ _ _ k = _
    rw [upd_ne _ _ d1]
    show upd (upd m km _) bk _ k = _
    rw [upd_ne _ _ d2,upd_ne _ _ d3]
    exact hy
   ·rw [hm' _ nPk]
    show upd _ _ _ km = _
    rw [upd_ne _ _ nlk.symm]
    show upd (upd m km _) bk _ km = _
    rw [upd_ne _ _ nkb.symm,upd_same]
   ·rw [hm' _ nPb]
    show upd _ _ _ bk = _
    rw [upd_ne _ _ nlb.symm]
    exact upd_same _ _ _
   ·simp [fatsOf]
   ·decide
   ·simp [fatsOf]
  ·rintro r m' ⟨P,hP,j3,hF⟩
   rw [fatsOf_all] at hF
   clear hyok hdom hvo1 hvoy hfate
   obtain ⟨g1,g3,fb,cap,tail,g4,g5,g6,g7,g8⟩ := hF
   have hd := hP
   obtain ⟨g5x,w1,w2,w3,w4⟩ := g5.resolve_left fun e => by
    have := congrArg List.length e.2.1
    rw [List.length_map] at this
    exact hb.t (List.eq_nil_of_length_eq_zero this)
   have nfl : fb ≠ l := fun e => w2 (.inr e)
   have g4' := g4
   simp only [bookC,harbL,ints,List.cons_append,List.nil_append,List.length_map] at g4'
   rw [List.length_map] at g6
   simp(maxSteps:=9^9)only[↓VX,VQ,seval,j3,g4',nlb,nlb.symm,nfl,nfl.symm,St.freeze]
   clear hd hP g5 j3
   have hM0 : LookM b (.mslice bb 0 b.answers.length acap) m bk fb cap km tail (leastTo b 0) [] (upd m' l none) := by
    have e1 : ∀ k,k ≠ l → upd m' l none k = m' k := fun k h => upd_ne _ _ h
    refine ⟨fun k y hy => ?_,?_,?_,?_,?_⟩
    ·rw [e1 _ (ne_of_some hy hl0)]; exact g1 _ _ hy
    ·rw [e1 _ nlb.symm,g4,List.length_map,hlz]
    ·rw [e1 _ nfl]; exact g5x
    ·rw [e1 _ nlk.symm]; exact g3
    ·intro e he; cases he
   generalize upd m' l none = M0 at hM0 ⊢
   clear g1 g3 g4 g4' g5x g8 m'
   refine aloop (envCOk _ _ _) (fun x : Nat × List (AV × AV) × Mem => ⟨[(3,.v (.eptr [.ptr bk 0])),(41,.v (.mslice fb 0 (truthsR b.harb []).length cap)),(42,.v (.int .i64 (truthsR b.harb []).length)),(43,.v (.int .i64 x.1))],[],[],x.2.2⟩)
    (fun x => x.1 ≤ (truthsR b.harb []).length ∧ LookM b (.mslice bb 0 b.answers.length acap) m bk fb cap km tail (leastTo b x.1) x.2.1 x.2.2 ∧ ∀ j,j < x.1 → ∃ y,(AV.int .i64 (canS b (fateF b.harb ((truthsR b.harb [])[j]!)) : Nat),y) ∈ x.2.1) (fun x => (truthsR b.harb []).length - x.1) (0,[],M0) (fun _ => rfl) ⟨Nat.zero_le _,hM0,fun j hj => absurd hj (Nat.not_lt_zero _)⟩ (by (simp only [FE,↓FP,seval]); try simp [St.freeze]) ?_
   rintro ⟨i,kv,mi⟩ ⟨hi,hMi,hki⟩
   dsimp only at hi hMi hki
   have hcb := hMi.cb
   have hcf := hMi.cf
   simp only [bookC,harbL,ints,List.cons_append,List.nil_append] at hcb
   have hown1 := fun F least bk km kv m => hown F least bk km kv m i
   have hls1 := hls i
   by_cases hil : i < (truthsR b.harb []).length
   ·obtain ⟨rr,hd1⟩ := fats_at b.harb (truthsR b.harb []) tail hil
    simp(maxSteps:=9^9)only[↓VX,VQ,seval,hcb,hcf,hd1]
    repeat'(first|intro _|apply And.intro)
    all_goals try first|omega|(simp only[LL];omega)|exact nlC (by decide) _|exact nbC rfl
    have hls2 := hls1 hil
    refine ACall.told (hown1 (.mslice fb 0 (truthsR b.harb []).length cap) (leastTo b i) bk km kv mi hil hMi.cb (hAm _ hMi.sub) hMi.ck hMi.kn (waysR b ((truthsR b.harb [])[i]!)) (hwR _).symm (by have := hwl ((truthsR b.harb [])[i]!); omega)) ?_
    rintro r2 m2 ⟨wb,wcap,wtail,kv2,rfl,o1,o2,o3,o4,o5,o6,o7,_⟩
    have hM2 := hMi.keeps hkm w4 nkb o5 o3 o4
    have hk2 : ∀ j,j < i + 1 → ∃ y,(AV.int .i64 (canS b (fateF b.harb ((truthsR b.harb [])[j]!)) : Nat),y) ∈ kv2 := fun j hj => by
     by_cases hje : j = i
     ·subst hje; exact ⟨_,o7⟩
     ·obtain ⟨y,hy⟩ := hki j (by omega)
      exact ⟨y,o6 _ hy⟩
    have hwn : waysR b ((truthsR b.harb [])[i]!) ≠ [] := by rw [← hwR]; exact waysD_ne _ _ _ _
    have hwa1 := hwa ((truthsR b.harb [])[i]!)
    have hwl1 := hwl ((truthsR b.harb [])[i]!)
    generalize waysR b ((truthsR b.harb [])[i]!) = W at *
    have hms1 := hms (leastTo b i) W
    clear hown1 hcb hcf hd1 hMi hki hown
    simp(maxSteps:=9^9)only[↓VX,VQ,seval]
    repeat'(first|intro _|apply And.intro)
    all_goals try first|omega|(simp only[LL];omega)|exact nlC (by decide) _|exact nbC rfl
    refine aloop (envCOk _ _ _) (fun x : Nat × Mem => ⟨[(3,.v (.eptr [.ptr bk 0])),(41,.v (.mslice fb 0 (truthsR b.harb []).length cap)),(42,.v (.int .i64 (truthsR b.harb []).length)),(43,.v (.int .i64 i)),(49,.v (.mslice wb 0 W.length wcap)),(50,.v (.int .i64 W.length)),(51,.v (.int .i64 x.1))],[],[],x.2⟩)
     (fun x => x.1 ≤ W.length ∧ LookM b (.mslice bb 0 b.answers.length acap) m bk fb cap km tail (minIn (leastTo b i) W x.1) kv2 x.2 ∧ x.2 wb = some (.cells (ownsC W ++ wtail))) (fun x => W.length - x.1) (0,m2) (fun _ => rfl) ⟨Nat.zero_le _,hM2,o1⟩ (by (simp only [FE,↓FP,seval]); try simp) ?_
    rintro ⟨k,mk⟩ ⟨hk,hMk,hwk⟩
    dsimp only at hk hMk hwk
    have hcb := hMk.cb
    simp only [bookC,harbL,ints,List.cons_append,List.nil_append] at hcb
    by_cases hkl : k < W.length
    ·obtain ⟨hd1,hd2⟩ := own_drop (L := W) (tail := wtail) hkl
     have hms2 := hms1 k hkl
     have hst := hstr (.mslice fb 0 (truthsR b.harb []).length cap) (.map km) (minIn (leastTo b i) W k) bk (W[k]!) (hwa1 k hkl) mk hMk.cb (hAm _ hMk.sub)
     have hst2 := hMk.put hbk0 w3 nkb.symm (minIn (leastTo b i) W (k + 1))
     have hwb : wb ≠ bk := fun q => by
      rw [q,hMk.cb] at hwk
      injection hwk with hwk
      injection hwk with hwk
      exact ownsC_book hwn hwk
     have hfl3 := ownE_flat (W[k]!)
     have hln3 := ownE_mlen (W[k]!)
     have htk3 := ownE_take (W[k]!)
     simp only [ownA] at hst
     simp(maxSteps:=9^9)only[↓VX,VQ,seval,hwk,hd1,hd2,hfl3,hln3,htk3]
     repeat'(first|intro _|apply And.intro)
     all_goals try first|omega|(simp only[LL];omega)|exact nlC (by decide) _|exact nbC rfl
     (refine adraw (by first | exact envOk _ | exact envCOk _ _ _) mixed [⟨false,false,0⟩,⟨false,false,0⟩,⟨false,false,0⟩,⟨false,false,0⟩,⟨false,false,0⟩,⟨false,false,0⟩,⟨false,false,0⟩,⟨false,false,0⟩,⟨false,false,0⟩,⟨false,false,0⟩,⟨false,false,0⟩,⟨false,false,0⟩] (by kernel_rfl) ?_; show vcOpsD _ _ _ (_ :: _) _ _)
     simp(maxSteps:=9^9)only[↓VX,VQ,seval,hcb,hfl3,hln3,htk3]
     repeat'(first|intro _|apply And.intro)
     all_goals try first|omega|(simp only[LL];omega)|exact nlC (by decide) _|exact nbC rfl
     refine VPure.at hst ?_
     simp(maxSteps:=9^9)only[↓VX,VQ,seval,hcb]
     repeat'(first|intro _|apply And.intro)
     all_goals try first|omega|(simp only[LL];omega)|exact nlC (by decide) _|exact nbC rfl
     refine ⟨(k + 1,upd mk bk (some (.cells (bookC b (.mslice bb 0 b.answers.length acap) (.mslice fb 0 (truthsR b.harb []).length cap) (.map km) (minIn (leastTo b i) W (k + 1)))))),⟨by dsimp only; omega,hst2,by dsimp only; rw [upd_ne _ _ hwb]; exact hwk⟩,by dsimp only; omega,?_⟩
     (simp only [FE,↓FP,seval])
     rw [hms2]
     exact ⟨by push_cast; rfl,rfl⟩
    ·have hke : k = W.length := by omega
     subst hke
     simp(maxSteps:=9^9)only[↓VX,VQ,seval]
     repeat'(first|intro _|apply And.intro)
     all_goals try first|omega|(simp only[LL];omega)|exact nlC (by decide) _|exact nbC rfl
     refine ⟨(i + 1,kv2,mk),⟨by dsimp only; omega,by dsimp only; rw [hls2]; exact hMk,hk2⟩,by dsimp only; omega,?_⟩
     (simp only [FE,↓FP,seval])
     try simp
   ·have hie : i = (truthsR b.harb []).length := by omega
    subst hie
    simp(maxSteps:=9^9)only[↓VX,VQ,seval]
    repeat'(first|intro _|apply And.intro)
    all_goals try first|omega|(simp only[LL];omega)|exact nlC (by decide) _|exact nbC rfl
    refine ⟨bk,rfl,hMi.sub,⟨fb,cap,km,kv,tail,?_,hMi.cf,g6,hMi.ck,hMi.kn,fun t ht => ?_⟩,hAm _ hMi.sub⟩
    ·rw [← hla]; exact hMi.cb
    ·obtain ⟨j,hj,rfl⟩ := List.mem_iff_getElem.1 ht
     have := hki j hj
     rw [getD_any hj] at this
     exact this
theorem AnsIn.sub {l : List RAns} {A : AV} {m m' : Mem} (h : AnsIn l A m) (hs : ∀ k y,m k = some y → m' k = some y) : AnsIn l A m' := by
 rcases h with h | ⟨bb,c,t,h1,h2,h3⟩
 ·exact .inl h
 ·exact .inr ⟨bb,c,t,h1,hs _ _ h2,h3⟩
theorem Looked.sub {b : RBook} {A : AV} {bk : Nat} {m m' : Mem} (h : Looked b A bk m) (hs : ∀ k y,m k = some y → m' k = some y) : Looked b A bk m' := by
 obtain ⟨⟨fb,cap,km,kv,tail,h1,h2,h3,h4,h5,h6⟩,h7⟩ := h
 exact ⟨⟨fb,cap,km,kv,tail,hs _ _ h1,hs _ _ h2,h3,hs _ _ h4,h5.keeps fun k l hk => hs _ _ hk,h6⟩,h7.sub hs⟩
theorem fairF_c (bk : Nat) : PCall Try.prog 19 [.ptr bk 0] (.fn (.func 38) [] [.eptr [.ptr bk 0]]) := by
 intro m
 (refine acall_intro (E := env fun _ => .imm) (envOk _) rfl Try.func19 rfl Try.call19 (by kernel_rfl) (by simp [Try.ntmps19]) ?_; simp only [Try.f19];  simp(maxSteps:=9^9)only[↓VX,VQ,seval])
structure FYok (b : RBook) (m0 : Mem) (l : Nat) (J : List (RTru × List Int) → Mem → Prop) : Prop where
 sub : ∀ pre m1,J pre m1 → ∀ k y,m0 k = some y → m1 k = some y
 y : ∀ pre x m1,pre.length ≤ 512000 → x ∈ fairR b → J pre m1 → AYield Try.prog l [fateFA (fateF b.harb x.1),ownA x.2] m1 (fun r m2 => r = .bool true ∧ J (pre ++ [x]) m2)
theorem fair1_c (b : RBook) (hb : BOk b) (A : AV) (bk : Nat) (m0 : Mem) (hLk : Looked b A bk m0) (l : Nat) (J : List (RTru × List Int) → Mem → Prop) (hy : FYok b m0 l J) (m : Mem) (hJ : J [] m) :
  ACall Try.prog 38 [.fn (.yield l) [] [],.eptr [.ptr bk 0]] m fun _ m' => J (fairR b) m' := by
 have hh := hb.h
 have hna := hb.n
 obtain ⟨⟨fb,cap,km,kv,tail,k1,k2,k3,k4,k5,k6⟩,k7⟩ := hLk
 have hT := fun (i : Nat) (q : i < (truthsR b.harb []).length) => truths_tok hh (but := []) (t := (truthsR b.harb [])[i]!) (by rw [getD_any q]; exact List.getElem_mem q)
 have hTm := fun (i : Nat) (q : i < (truthsR b.harb []).length) => show (truthsR b.harb [])[i]! ∈ truthsR b.harb [] by rw [getD_any q]; exact List.getElem_mem q
 have htl := truths_len hh []
 have hown := fun (F : AV) (least : Int) (bk km : Nat) (kv : List (AV × AV)) (m : Mem) (i : Nat) (q : i < (truthsR b.harb []).length) h1 h2 => owns_c b hb (fateF b.harb ((truthsR b.harb [])[i]!)) (fate_ok hh (hT i q)) A F least bk km kv m h1 h2
 have hstr := fun (F K : AV) (least : Int) (bk : Nat) (w : List Int) (hw : w.length = b.answers.length) (m : Mem) => strays_c b hb A F K least bk w hw m
 have hfs := fun i => fairTo_succ (b := b) (n := i)
 have hfl := fun i => fairTo_length hb i
 have hfa := fairTo_all b
 have hos := fun (i k : Nat) => fairOf_succ (b := b) (L := leastR b) (t := (truthsR b.harb [])[i]!) (n := k)
 have hol := fun (i k : Nat) => fairOf_length b (leastR b) ((truthsR b.harb [])[i]!) k
 have hwR := waysS_R hb
 have hwl := fun t => waysR_length hb t
 have hwa := fun (t : RTru) (k : Nat) (q : k < (waysR b t).length) => waysR_at (b := b) (t := t) q
 have hmem := fun (t : RTru) (w : List Int) (h1 : t ∈ truthsR b.harb []) (h2 : w ∈ waysR b t) (h3 : manyL w = leastR b) => (fair_mem (b := b) (x := (t,w))).2 ⟨h1,h2,h3⟩
 have hj1 := hy.sub _ _ hJ
 have hcb := hj1 _ _ k1
 have hcf := hj1 _ _ k2
 simp only [bookC,harbL,ints,List.cons_append,List.nil_append] at hcb
 (refine acall_intro (E := envC (modeAt [6] []) false []) (envCOk _ _ _) rfl Try.func38 rfl Try.call38 (by kernel_rfl) (by simp [Try.ntmps38]) ?_; simp only [Try.f38];  simp(maxSteps:=9^9)only[↓VX,VQ,seval,hcb])
 repeat'(first|intro _|apply And.intro)
 all_goals try first|omega|(simp only[LL];omega)|exact nlC (by decide) _|exact nbC rfl
 refine aloop (envCOk _ _ _) (fun x : Nat × Mem => ⟨[(0,.v (.fn (.yield l) [] [])),(1,.v (.eptr [.ptr bk 0])),(10,.v (.mslice fb 0 (truthsR b.harb []).length cap)),(11,.v (.int .i64 (truthsR b.harb []).length)),(12,.v (.int .i64 x.1))],[],[],x.2⟩)
  (fun x => x.1 ≤ (truthsR b.harb []).length ∧ J (fairTo b x.1) x.2) (fun x => (truthsR b.harb []).length - x.1) (0,m) (fun _ => rfl) ⟨Nat.zero_le _,hJ⟩ (by (simp only [FE,↓FP,seval]); try simp) ?_
 rintro ⟨i,mi⟩ ⟨hi,hJi⟩
 dsimp only at hi hJi
 clear hcb hcf hj1 hJ
 have hs := hy.sub _ _ hJi
 have hcf := hs _ _ k2
 have hfs1 := hfs i
 have hfl1 := hfl i
 have hos1 := hos i
 have hol1 := hol i
 by_cases hil : i < (truthsR b.harb []).length
 ·obtain ⟨rr,hd1⟩ := fats_at b.harb (truthsR b.harb []) tail hil
  have hfs2 := hfs1 hil
  have hTm1 := hTm i hil
  simp(maxSteps:=9^9)only[↓VX,VQ,seval,hcf,hd1]
  repeat'(first|intro _|apply And.intro)
  all_goals try first|omega|(simp only[LL];omega)|exact nlC (by decide) _|exact nbC rfl
  refine ACall.told (hown (.mslice fb 0 (truthsR b.harb []).length cap) (leastR b) bk km kv mi i hil (hs _ _ k1) (k7.sub hs) (hs _ _ k4) (k5.keeps fun k l hk => hs _ _ hk) (waysR b ((truthsR b.harb [])[i]!)) (hwR _).symm (by have := hwl ((truthsR b.harb [])[i]!); omega)) ?_
  rintro r2 m2 ⟨wb,wcap,wtail,kv2,rfl,o1,o2,o3,o4,o5,o6,o7,o8⟩
  have := o8 (k6 _ hTm1)
  subst this
  have hkv : kv2 = kv := by
   have := hs _ _ k4
   rw [o3] at this
   injection this with this
   injection this
  subst hkv
  have hw0 : ∃ wt,m0 wb = some (.cells (ownsC (waysR b ((truthsR b.harb [])[i]!)) ++ wt)) := by
   obtain ⟨s,wb',c',t',e1,e2,e3⟩ := k5 _ o7
   simp only [Prod.mk.injEq,AV.int.injEq,AV.mslice.injEq,true_and] at e1
   obtain ⟨e1,e4,_⟩ := e1
   have : s = canS b (fateF b.harb ((truthsR b.harb [])[i]!)) := by omega
   subst this
   rw [← e4] at e2
   exact ⟨t',by rw [hwR] at e2; exact e2⟩
  obtain ⟨wt,hw0⟩ := hw0
  clear o1 o4 o5 o6 o8
  have hwa1 := hwa ((truthsR b.harb [])[i]!)
  have hwl1 := hwl ((truthsR b.harb [])[i]!)
  have hmm := fun w => hmem ((truthsR b.harb [])[i]!) w hTm1
  generalize waysR b ((truthsR b.harb [])[i]!) = W at *
  simp(maxSteps:=9^9)only[↓VX,VQ,seval]
  repeat'(first|intro _|apply And.intro)
  all_goals try first|omega|(simp only[LL];omega)|exact nlC (by decide) _|exact nbC rfl
  refine aloop (envCOk _ _ _) (fun x : Nat × Mem => ⟨[(0,.v (.fn (.yield l) [] [])),(1,.v (.eptr [.ptr bk 0])),(4,.v (fateFA (fateF b.harb ((truthsR b.harb [])[i]!)))),(10,.v (.mslice fb 0 (truthsR b.harb []).length cap)),(11,.v (.int .i64 (truthsR b.harb []).length)),(12,.v (.int .i64 i)),(18,.v (.mslice wb 0 W.length wcap)),(19,.v (.int .i64 W.length)),(20,.v (.int .i64 x.1))],[],[],x.2⟩)
   (fun x => x.1 ≤ W.length ∧ J (fairTo b i ++ fairOf b (leastR b) ((truthsR b.harb [])[i]!) x.1) x.2) (fun x => W.length - x.1) (0,m2) (fun _ => rfl) ⟨Nat.zero_le _,by simpa [fairOf] using hJi⟩ (by (simp only [FE,↓FP,seval]); try simp [fateFA]) ?_
  rintro ⟨k,mk⟩ ⟨hk,hJk⟩
  dsimp only at hk hJk
  have hsk := hy.sub _ _ hJk
  have hcb := hsk _ _ k1
  have hwk := hsk _ _ hw0
  have hos2 := hos1 k
  have hol2 := hol1 k
  simp only [bookC,harbL,ints,List.cons_append,List.nil_append] at hcb
  by_cases hkl : k < W.length
  ·obtain ⟨hd1,hd2⟩ := own_drop (L := W) (tail := wt) hkl
   have hst := hstr (.mslice fb 0 (truthsR b.harb []).length cap) (.map km) (leastR b) bk (W[k]!) (hwa1 k hkl) mk (hsk _ _ k1) (k7.sub hsk)
   have hfl3 := ownE_flat (W[k]!)
   have hln3 := ownE_mlen (W[k]!)
   have htk3 := ownE_take (W[k]!)
   simp only [ownA] at hst
   simp(maxSteps:=9^9)only[↓VX,VQ,seval,hwk,hd1,hd2,hfl3,hln3,htk3,fateFA]
   repeat'(first|intro _|apply And.intro)
   all_goals try first|omega|(simp only[LL];omega)|exact nlC (by decide) _|exact nbC rfl
   by_cases hml : manyL (W[k]!) = leastR b
   ·rw [if_pos hml] at hos2
    have hml' : (manyL (W[k]!) = leastR b) = True := eq_true hml
    have hyy := hy.y _ ((truthsR b.harb [])[i]!,W[k]!) mk (by rw [List.length_append]; omega) (hmm _ (by rw [getD_any hkl]; exact List.getElem_mem hkl) hml) hJk
    simp only [fateFA,ownA] at hyy
    (refine adraw (by first | exact envOk _ | exact envCOk _ _ _) mixed [⟨false,false,0⟩,⟨false,false,0⟩,⟨false,false,0⟩,⟨true,false,0⟩,⟨false,false,0⟩,⟨false,false,0⟩,⟨false,false,0⟩,⟨false,false,0⟩,⟨false,false,0⟩,⟨false,false,0⟩,⟨false,false,0⟩,⟨false,false,0⟩,⟨false,false,2⟩,⟨false,false,0⟩,⟨false,false,0⟩] (by kernel_rfl) ?_; show vcOpsD _ _ _ (_ :: _) _ _)
    simp(maxSteps:=9^9)only[↓VX,VQ,seval,hcb,hfl3,hln3,htk3]
    repeat'(first|intro _|apply And.intro)
    all_goals try first|omega|(simp only[LL];omega)|exact nlC (by decide) _|exact nbC rfl
    refine VPure.at hst ?_
    simp(maxSteps:=9^9)only[↓VX,VQ,seval,hcb,hml']
    repeat'(first|intro _|apply And.intro)
    all_goals try first|omega|(simp only[LL];omega)|exact nlC (by decide) _|exact nbC rfl
    refine AYield.mono hyy ?_
    rintro r3 m3 ⟨rfl,hJ3⟩
    simp(maxSteps:=9^9)only[↓VX,VQ,seval]
    repeat'(first|intro _|apply And.intro)
    all_goals try first|omega|(simp only[LL];omega)|exact nlC (by decide) _|exact nbC rfl
    refine ⟨(k + 1,m3),⟨by dsimp only; omega,by dsimp only; rw [hos2 hkl,← List.append_assoc]; exact hJ3⟩,by dsimp only; omega,?_⟩
    (simp only [FE,↓FP,seval])
    try simp [fateFA]
   ·rw [if_neg hml] at hos2
    have hml' : (manyL (W[k]!) = leastR b) = False := eq_false hml
    (refine adraw (by first | exact envOk _ | exact envCOk _ _ _) mixed [⟨false,false,0⟩,⟨false,false,0⟩,⟨false,false,0⟩,⟨true,false,0⟩,⟨false,false,0⟩,⟨false,false,0⟩,⟨false,false,0⟩,⟨false,false,0⟩,⟨false,false,0⟩,⟨false,false,0⟩,⟨false,false,0⟩,⟨false,false,0⟩,⟨false,false,2⟩,⟨false,false,0⟩,⟨false,false,0⟩] (by kernel_rfl) ?_; show vcOpsD _ _ _ (_ :: _) _ _)
    simp(maxSteps:=9^9)only[↓VX,VQ,seval,hcb,hfl3,hln3,htk3]
    repeat'(first|intro _|apply And.intro)
    all_goals try first|omega|(simp only[LL];omega)|exact nlC (by decide) _|exact nbC rfl
    refine VPure.at hst ?_
    simp(maxSteps:=9^9)only[↓VX,VQ,seval,hcb,hml']
    repeat'(first|intro _|apply And.intro)
    all_goals try first|omega|(simp only[LL];omega)|exact nlC (by decide) _|exact nbC rfl
    refine ⟨(k + 1,mk),⟨by dsimp only; omega,by dsimp only; rw [hos2 hkl]; exact hJk⟩,by dsimp only; omega,?_⟩
    (simp only [FE,↓FP,seval])
    try simp [fateFA]
  ·have hke : k = W.length := by omega
   subst hke
   simp(maxSteps:=9^9)only[↓VX,VQ,seval]
   repeat'(first|intro _|apply And.intro)
   all_goals try first|omega|(simp only[LL];omega)|exact nlC (by decide) _|exact nbC rfl
   refine ⟨(i + 1,mk),⟨by dsimp only; omega,by dsimp only; rw [hfs2]; exact hJk⟩,by dsimp only; omega,?_⟩
   (simp only [FE,↓FP,seval])
   try simp
 ·have hie : i = (truthsR b.harb []).length := by omega
  subst hie
  simp(maxSteps:=9^9)only[↓VX,VQ,seval]
  repeat'(first|intro _|apply And.intro)
  all_goals try first|omega|(simp only[LL];omega)|exact nlC (by decide) _|exact nbC rfl
  rw [← hfa]; exact hJi
theorem ask_c (b : RBook) (hb : BOk b) (A : AV) (bk : Nat) (m : Mem) (hLk : Looked b A bk m) (g : FuncId) (caps : List AV) (Q : RTru × List Int → Bool) (hq : ∀ x ∈ fairR b,PCall Try.prog g ([fateFA (fateF b.harb x.1),ownA x.2] ++ caps) (.bool (Q x))) :
  ACall Try.prog 24 [.ptr bk 0,.agg [.fn (.func g) [] caps]] m fun r m' => r = .int .i64 (askF Q (fairR b)) ∧ m' = m := by
 refine ACall.forget ?_
 have hfl := fairR_length hb
 have hfF := fairF_c bk
 have hf1 := fun (l : Nat) (J : List (RTru × List Int) → Mem → Prop) (hy : FYok b m l J) (m1 : Mem) (hJ : J [] m1) => fair1_c b hb A bk m hLk l J hy m1 hJ
 have e0 : askF Q (fairR b) = if (((fairR b).filter Q).length : Int) = ((fairR b).length : Nat) then 1 else if (((fairR b).filter Q).length : Int) = 0 then 2 else 0 := rfl
 have hfl2 := fun pre : List (RTru × List Int) => List.length_filter_le Q pre
 have hsn : ∀ (pre : List (RTru × List Int)) x,(((pre ++ [x]).filter Q).length : Int) = if Q x = true then ((pre.filter Q).length : Int) + 1 else (pre.filter Q).length := fun pre x => by
  rw [List.filter_append,List.length_append,List.filter_cons]
  by_cases q : Q x = true
  ·rw [if_pos q,if_pos q]; simp
  ·rw [if_neg q,if_neg q]; simp
 (refine acall_intro (E := envC (modeAt [8] [5,6]) false []) (envCOk _ _ _) rfl Try.func24 rfl Try.call24 (by kernel_rfl) (by simp [Try.ntmps24]) ?_; simp only [Try.f24];  simp(maxSteps:=9^9)only[↓VX,VQ,seval,])
 repeat'(first|intro _|apply And.intro)
 all_goals try first|omega|(simp only[LL];omega)|exact nlC (by decide) _|exact nbC rfl
 rename_i by_ hby ba hba
 have nab : ba ≠ by_ := by rintro rfl; simp at hba
 have hba0 : m ba = none := by simpa [nab] using hba
 (refine ACall.pure (hfF) ?_; try simp(maxSteps:=9^9)only[↓VX,VQ,seval])
 refine arange rfl (f := 38) (first := []) (caps := [.eptr [.ptr bk 0]]) (by simp(maxSteps:=9^9)only[↓VX,VQ,seval]) ?_
 intro l hl
 have nlb : l ≠ by_ := by rintro rfl; simp [upd,nab.symm] at hl
 have nla : l ≠ ba := by rintro rfl; simp [upd] at hl
 have hl0 : m l = none := by simpa [upd,nlb,nla] using hl
 generalize hR : LoopA.mk _ _ _ _ _ = R
 have hyok : FYok b m l (fun pre m1 => m1 l = some (.loop .ready none R) ∧ m1 by_ = some (.cells [.int .i64 ((pre.filter Q).length : Nat)]) ∧ m1 ba = some (.cells [.int .i64 (pre.length : Nat)]) ∧ ∀ k y,m k = some y → m1 k = some y) := by
  refine ⟨fun pre m1 hJ => hJ.2.2.2,fun pre x m1 hpl hx hJ => ?_⟩
  obtain ⟨j3,j4,j5,j6⟩ := hJ
  subst hR
  refine ayield (E := envC (modeAt [8] [5,6]) true []) (envCOk _ _ _) rfl j3 rfl (by rfl) (by rfl) (by rfl) ?_
  have hq1 := hq x hx
  have hsn1 := hsn pre x
  have hle := hfl2 pre
  have hfl3 := ownE_flat x.2
  have hln3 := ownE_mlen x.2
  have htk3 := ownE_take x.2
  simp only [ownA,fateFA,List.cons_append,List.nil_append] at hq1 ⊢
  cases hQ : Q x
  ·rw [hQ] at hq1
   rw [hQ,if_neg (by decide)] at hsn1
   simp(maxSteps:=9^9)only[↓VX,VQ,seval,j3,j4,j5,nlb,nlb.symm,nla,nla.symm,nab,nab.symm,hfl3,hln3,htk3,List.drop_zero]
   repeat'(first|intro _|apply And.intro)
   all_goals try first|omega|(simp only[LL];omega)|exact nlC (by decide) _|exact nbC rfl
   (refine ACall.pure (hq1) ?_; try simp(maxSteps:=9^9)only[↓VX,VQ,seval,GL,j3,j4,j5,nlb,nlb.symm,nla,nla.symm,nab,nab.symm,List.length_append,List.length_cons,List.length_nil])
   repeat'(first|intro _|apply And.intro)
   all_goals try first|omega|(simp only[LL];omega)|exact nlC (by decide) _|exact nbC rfl
   ·rw [hsn1]
   ·push_cast; rfl
   ·rename_i k y hy
    have d1 := ne_of_some hy hl0
    have d2 := ne_of_some hy hby
    have d3 := ne_of_some hy hba0
    simp only [if_neg d1,if_neg d2,if_neg d3]
    exact j6 k y hy
  ·rw [hQ] at hq1
   rw [hQ,if_pos rfl] at hsn1
   simp(maxSteps:=9^9)only[↓VX,VQ,seval,j3,j4,j5,nlb,nlb.symm,nla,nla.symm,nab,nab.symm,hfl3,hln3,htk3,List.drop_zero]
   repeat'(first|intro _|apply And.intro)
   all_goals try first|omega|(simp only[LL];omega)|exact nlC (by decide) _|exact nbC rfl
   (refine ACall.pure (hq1) ?_; try simp(maxSteps:=9^9)only[↓VX,VQ,seval,GL,j3,j4,j5,nlb,nlb.symm,nla,nla.symm,nab,nab.symm,List.length_append,List.length_cons,List.length_nil])
   repeat'(first|intro _|apply And.intro)
   all_goals try first|omega|(simp only[LL];omega)|exact nlC (by decide) _|exact nbC rfl
   ·rw [hsn1]
   ·push_cast; rfl
   ·rename_i k y hy
    have d1 := ne_of_some hy hl0
    have d2 := ne_of_some hy hby
    have d3 := ne_of_some hy hba0
    simp only [if_neg d1,if_neg d2,if_neg d3]
    exact j6 k y hy
 refine ACall.mono (hf1 l _ hyok _ ⟨upd_same _ _ _,?_,?_,fun k y hy => ?_⟩) ?_
 ·simp [upd,nlb.symm,nab.symm]
 ·simp [upd,nla.symm]
 ·simp only [upd,if_neg (ne_of_some hy hl0),if_neg (ne_of_some hy hby),if_neg (ne_of_some hy hba0)]
  exact hy
 ·rintro r m' ⟨j3,j4,j5,j6⟩
  have hF2 := hfl2 (fairR b)
  generalize (List.filter Q (fairR b)).length = Y at *
  generalize (fairR b).length = N at *
  simp(maxSteps:=9^9)only[↓VX,VQ,seval,j3,j4,j5,nlb,nlb.symm,nla,nla.symm]
  repeat'(first|intro _|apply And.intro)
  all_goals try first|omega|(simp only[LL];omega)|exact nlC (by decide) _|exact nbC rfl
  all_goals
   refine ⟨m,fun k y hy => ?_,?_,rfl⟩
   ·rw [if_neg (ne_of_some hy hl0)]; exact j6 k y hy
  ·rw [e0,if_pos (by assumption)]
  ·rw [e0,if_neg (by assumption),if_pos (by assumption)]
  ·rw [e0,if_neg (by assumption),if_neg (by assumption)]
theorem sunk_err {h : RHarb} (e : (checkH h).2.2 = 0) : (sunkR h).2.2 = if truthsR h [] = [] then 8 else 0 := by
 have hk : knownR h (checkH h).2.2 = if truthsR h [] = [] then ([],8) else (truthsR h [],0) := by
  unfold knownR
  rw [e]; rfl
 unfold sunkR
 rw [hk]
 by_cases q : truthsR h [] = []
 ·rw [if_pos q,if_pos q]; rfl
 ·rw [if_neg q,if_neg q]; rfl
theorem rcheck_c (b : RBook) (hs : hnamesFit b.harb) : PCall Try.prog 35 [bookA b] (.tuple [.int .i64 (checkB b).1,.int .i64 (checkB b).2.1,.int .i64 (checkB b).2.2]) := by
 intro m
 have h1 := check_c b.harb hs
 have h2 := sunk_top b.harb hs
 have hse := sunk_err (h := b.harb)
 have hhk := fun q => hok_check (h := b.harb) q
 have e0 : checkB b = if (checkH b.harb).2.2 ≠ 0 then (1,0,(checkH b.harb).2.2)
  else if b.words.length ≠ b.harb.letters.length then (2,0,3)
  else if (wordsE b).2 ≠ 0 then (2,(wordsE b).1,(wordsE b).2)
  else if offP 1 20 b.back = true then (3,0,7)
  else if 3 < b.answers.length then (4,0,3)
  else if (answersE b).2 ≠ 0 then (4,(answersE b).1,(answersE b).2)
  else if truthsR b.harb [] = [] then (5,0,8)
  else (0,0,0) := rfl
 have hin := fun n => roff_c 1 31 n
 have hib := roff_c 1 20 b.back
 have hip := fun n => roff_c 0 (b.harb.ports - 1) n
 have hid := fun n => roff_c 0 60 n
 have hW : wordsE b = failFrom (fun _ n => wordErr n) 0 b.words := rfl
 have hA : answersE b = failFrom (fun _ => ansErr b.harb.ports) 0 b.answers := rfl
 generalize checkB b = X at *
 generalize hC : checkH b.harb = C at *
 generalize hTT : truthsR b.harb [] = T at *
 clear hTT
 obtain ⟨C1,C2,C3⟩ := C
 generalize sunkR b.harb = SK at *
 obtain ⟨S1,S2,S3⟩ := SK
 simp only [bookA,bookL,harbA,harbL,ints,List.cons_append,List.nil_append,List.map_nil] at *
 (refine acall_intro (E := envC (modeAt [8] []) false []) (envCOk _ _ _) rfl Try.func35 rfl Try.call35 (by kernel_rfl) (by simp [Try.ntmps35]) ?_; simp only [Try.f35];  simp(maxSteps:=9^9)only[↓VX,VQ,seval,Int.reduceEq])
 ((refine ACall.pure (h1) ?_; try simp(maxSteps:=9^9)only[↓VX,VQ,seval]); try simp(maxSteps:=9^9)only[↓VX,VQ,seval,GL])
 repeat'(first|intro _|apply And.intro)
 all_goals try first|omega|(simp only[LL];omega)|exact nlC (by decide) _|exact nbC rfl
 ·rw [e0,if_pos (by assumption)]
 all_goals have hc : C3 = 0 := by apply Decidable.byContradiction; assumption
 ·have q : b.words.length ≠ b.harb.letters.length := by omega
  rw [e0,if_neg (fun w => w hc),if_pos q]
 have hh := hhk hc
 have hp := hh.p
 have hse1 := hse hc
 have hwl : b.words.length = b.harb.letters.length := by omega
 rw [if_neg (fun w => w hc),if_neg (fun w => w hwl)] at e0
 refine aloop (envCOk _ _ _) (fun i : Nat => ⟨[(1,.v (.eptr [.int .i64 b.harb.ports,.int .i64 b.harb.lost,.slice 5 (b.harb.ships.map shipA),.slice 3 (b.harb.letters.map letA),.slice 4 (b.harb.reports.map repA),.slice 1 (b.words.map (AV.int .i64)),.int .i64 b.back,.slice 3 (b.answers.map ansA)])),(30,.v (.slice 1 (b.words.map (AV.int .i64)))),(31,.v (.int .i64 b.words.length)),(32,.v (.int .i64 i))],[],[],m⟩)
  (fun i => i ≤ b.words.length ∧ wordsE b = failFrom (fun _ n => wordErr n) i (b.words.drop i)) (fun i => b.words.length - i) 0 (fun _ => rfl) ⟨by omega,by rw [hW,List.drop_zero]⟩ (by (simp only [FE,↓FP,seval]); try simp) ?_
 rintro i ⟨hi,hWi⟩
 have hini := hin (b.words[i]!)
 simp(maxSteps:=9^9)only[↓VX,VQ,seval,↓ixZ]
 repeat'(first|intro _|apply And.intro)
 all_goals try first|omega|(simp only[LL];omega)|exact nlC (by decide) _|exact nbC rfl
 ·have hil : i < b.words.length := by omega
  have hdr : b.words.drop i = b.words[i]! :: b.words.drop (i + 1) := by rw [getD_any hil]; exact List.drop_eq_getElem_cons hil
  rw [hdr] at hWi
  have hwe : wordErr (b.words[i]!) = if offP 1 31 (b.words[i]!) = true then 7 else 0 := rfl
  generalize offP 1 31 (b.words[i]!) = O at *
  ((refine ACall.pure (hini) ?_; try simp(maxSteps:=9^9)only[↓VX,VQ,seval]); try simp(maxSteps:=9^9)only[↓VX,VQ,seval,GL])
  repeat'(first|intro _|apply And.intro)
  all_goals try first|omega|(simp only[LL];omega)|exact nlC (by decide) _|exact nbC rfl
  ·have h7 : wordErr (b.words[i]!) = 7 := by rw [hwe,if_pos (by assumption)]
   rw [failFrom_hit (show wordErr (b.words[i]!) ≠ 0 by rw [h7]; decide)] at hWi
   rw [e0,hWi,if_pos (show wordErr (b.words[i]!) ≠ 0 by rw [h7]; decide),h7]
  ·have h7 : wordErr (b.words[i]!) = 0 := by rw [hwe,if_neg (by assumption)]
   rw [failFrom_skip (show ¬ wordErr (b.words[i]!) ≠ 0 by rw [h7]; decide)] at hWi
   refine ⟨i + 1,⟨by omega,hWi⟩,by dsimp only; omega,?_⟩
   (simp only [FE,↓FP,seval])
   try simp
 ·have hie : i = b.words.length := by omega
  rw [hie,List.drop_length] at hWi
  rw [hWi] at e0
  rw [if_neg (show ¬ (failFrom (fun (_ : Nat) n => wordErr n) b.words.length ([] : List Int)).2 ≠ 0 from fun w => w rfl)] at e0
  ((refine ACall.pure (hib) ?_; try simp(maxSteps:=9^9)only[↓VX,VQ,seval]); try simp(maxSteps:=9^9)only[↓VX,VQ,seval,GL])
  repeat'(first|intro _|apply And.intro)
  all_goals try first|omega|(simp only[LL];omega)|exact nlC (by decide) _|exact nbC rfl
  ·rw [e0,if_pos (by assumption)]
  ·rw [e0,if_neg (by assumption),if_pos (by omega)]
  rw [if_neg (by assumption),if_neg (by omega)] at e0
  refine aloop (envCOk _ _ _) (fun i : Nat => ⟨[(1,.v (.eptr [.int .i64 b.harb.ports,.int .i64 b.harb.lost,.slice 5 (b.harb.ships.map shipA),.slice 3 (b.harb.letters.map letA),.slice 4 (b.harb.reports.map repA),.slice 1 (b.words.map (AV.int .i64)),.int .i64 b.back,.slice 3 (b.answers.map ansA)])),(53,.v (.slice 3 (b.answers.map ansA))),(54,.v (.int .i64 b.answers.length)),(55,.v (.int .i64 i))],[],[],m⟩)
   (fun i => i ≤ b.answers.length ∧ answersE b = failFrom (fun _ => ansErr b.harb.ports) i (b.answers.drop i)) (fun i => b.answers.length - i) 0 (fun _ => rfl) ⟨by omega,by rw [hA,List.drop_zero]⟩ (by (simp only [FE,↓FP,seval]); try simp) ?_
  rintro j ⟨hj,hAj⟩
  have p1 := hip (b.answers[j]!).port
  have p2 := hin (b.answers[j]!).words
  have p3 := hid (b.answers[j]!).day
  have hae := ansErr_is b.harb.ports (b.answers[j]!)
  simp(maxSteps:=9^9)only[↓VX,VQ,seval,↓ixAns]
  repeat'(first|intro _|apply And.intro)
  all_goals try first|omega|(simp only[LL];omega)|exact nlC (by decide) _|exact nbC rfl
  ·have hjl : j < b.answers.length := by omega
   have hdr : b.answers.drop j = b.answers[j]! :: b.answers.drop (j + 1) := by rw [getD_any hjl]; exact List.drop_eq_getElem_cons hjl
   rw [hdr] at hAj
   have hit : ∀ e : Int,e ≠ 0 → ansErr b.harb.ports (b.answers[j]!) = e → X = (4,(j : Int),e) := fun e he q => by
    rw [failFrom_hit (show ansErr b.harb.ports (b.answers[j]!) ≠ 0 by rw [q]; exact he)] at hAj
    rw [e0,hAj,if_pos (show ansErr b.harb.ports (b.answers[j]!) ≠ 0 by rw [q]; exact he),q]
   generalize offP 0 (b.harb.ports - 1) (b.answers[j]!).port = O1 at *
   generalize offP 1 31 (b.answers[j]!).words = O2 at *
   generalize offP 0 60 (b.answers[j]!).day = O3 at *
   ((refine ACall.pure (p1) ?_; try simp(maxSteps:=9^9)only[↓VX,VQ,seval]); try simp(maxSteps:=9^9)only[↓VX,VQ,seval,GL])
   repeat'(first|intro _|apply And.intro)
   all_goals try first|omega|(simp only[LL];omega)|exact nlC (by decide) _|exact nbC rfl
   ·rw [hit 4 (by decide) (by rw [hae,if_pos (by assumption)])]
   ((refine ACall.pure (p2) ?_; try simp(maxSteps:=9^9)only[↓VX,VQ,seval]); try simp(maxSteps:=9^9)only[↓VX,VQ,seval,GL])
   repeat'(first|intro _|apply And.intro)
   all_goals try first|omega|(simp only[LL];omega)|exact nlC (by decide) _|exact nbC rfl
   ·have q2 : O2 = false := by assumption
    ((refine ACall.pure (p3) ?_; try simp(maxSteps:=9^9)only[↓VX,VQ,seval]); try simp(maxSteps:=9^9)only[↓VX,VQ,seval,GL])
    repeat'(first|intro _|apply And.intro)
    all_goals try first|omega|(simp only[LL];omega)|exact nlC (by decide) _|exact nbC rfl
    ·have q3 : O3 = true := by assumption
     rw [hit 7 (by decide) (by rw [hae,if_neg (by assumption),q2,q3]; rfl)]
    ·have q3 : O3 = false := (Bool.not_eq_true _).mp (by assumption)
     have h7 : ansErr b.harb.ports (b.answers[j]!) = 0 := by rw [hae,if_neg (by assumption),q2,q3]; rfl
     rw [failFrom_skip (show ¬ ansErr b.harb.ports (b.answers[j]!) ≠ 0 by rw [h7]; decide)] at hAj
     refine ⟨j + 1,⟨by omega,hAj⟩,by dsimp only; omega,?_⟩
     (simp only [FE,↓FP,seval])
     try simp
   ·have q2 : O2 = true := (Bool.not_eq_false _).mp (by assumption)
    rw [hit 7 (by decide) (by rw [hae,if_neg (by assumption),q2]; rfl)]
  ·have hje : j = b.answers.length := by omega
   rw [hje,List.drop_length] at hAj
   rw [hAj] at e0
   rw [if_neg (show ¬ (failFrom (fun (_ : Nat) => ansErr b.harb.ports) b.answers.length ([] : List RAns)).2 ≠ 0 from fun w => w rfl)] at e0
   ((refine ACall.pure (h2) ?_; try simp(maxSteps:=9^9)only[↓VX,VQ,seval]); try simp(maxSteps:=9^9)only[↓VX,VQ,seval,GL])
   repeat'(first|intro _|apply And.intro)
   all_goals try first|omega|(simp only[LL];omega)|exact nlC (by decide) _|exact nbC rfl
   all_goals
    by_cases hT0 : T = []
    ·rw [if_pos hT0] at hse1 e0
     rw [e0]
     first | (rw [hse1]; done) | (exfalso; omega)
    ·rw [if_neg hT0] at hse1 e0
     rw [e0]
     first | done | (exfalso; omega)
def pairsL (P : List (Int × Int)) : List Int := P.flatMap fun p => [p.1,p.2]
def pairsE (P : List (Int × Int)) : Bool := P.any fun p => offP 0 (p.2 - 1) p.1
def renterE (b : RBook) (P : List (Int × Int)) : Int := if (checkB b).2.2 ≠ 0 then (checkB b).2.2 else if pairsE P = true then 4 else 0
theorem pairsL_length (P : List (Int × Int)) : (pairsL P).length = 2 * P.length := by
 unfold pairsL
 induction P with
 | nil => rfl
 | cons p P ih => rw [List.flatMap_cons,List.length_append,ih,List.length_cons]; simp; omega
theorem pairsL_at : ∀ (P : List (Int × Int)) (j : Nat),j < P.length → (pairsL P)[2 * j]! = (P[j]!).1 ∧ (pairsL P)[2 * j + 1]! = (P[j]!).2
 | [],_,h => by cases h
 | p :: P,0,_ => ⟨rfl,rfl⟩
 | p :: P,j + 1,h => by
  have := pairsL_at P j (by simpa using h)
  have e : pairsL (p :: P) = p.1 :: p.2 :: pairsL P := rfl
  rw [e,show 2 * (j + 1) = 2 * j + 1 + 1 by omega]
  exact this
theorem renter_c (b : RBook) (hs : hnamesFit b.harb) (P : List (Int × Int)) (hP : (checkB b).2.2 = 0 → P.length ≤ 10 ∧ ∀ j,j < P.length → 0 ≤ (P[j]!).2 ∧ (P[j]!).2 ≤ 1000) (m : Mem) :
  ACall Try.prog 17 [bookA b,ints (pairsL P)] m fun r m' => (renterE b P ≠ 0 ∧ r = .tuple [.nilptr,.int .i64 (renterE b P)] ∧ m' = m) ∨
   (renterE b P = 0 ∧ BOk b ∧ (∀ p ∈ P,0 ≤ p.1 ∧ p.1 ≤ p.2 - 1) ∧ ∃ bk,r = .tuple [.ptr bk 0,.int .i64 0] ∧ (∀ k y,m k = some y → m' k = some y) ∧ Looked b (.slice 3 (b.answers.map ansA)) bk m') := by
 have h1 := rcheck_c b hs
 have hlk := fun (hb : BOk b) => rlook_c b hb (.slice 3 (b.answers.map ansA)) m (.inl rfl)
 have hoff := fun lo hi n => roff_c lo hi n
 have e0 : renterE b P = if (checkB b).2.2 ≠ 0 then (checkB b).2.2 else if pairsE P = true then 4 else 0 := rfl
 have hpl := pairsL_length P
 have hpa := pairsL_at P
 have hok : (checkB b).2.2 = 0 → BOk b := fun q => bok_check q
 rw [bookV_A] at hlk
 generalize checkB b = C at *
 obtain ⟨C1,C2,C3⟩ := C
 simp only [bookA,bookL,harbA,harbL,ints,List.cons_append,List.nil_append] at h1 hlk ⊢
 (refine acall_intro (E := envC (modeAt [] []) false []) (envCOk _ _ _) rfl Try.func17 rfl Try.call17 (by kernel_rfl) (by simp [Try.ntmps17]) ?_; simp only [Try.f17];  simp(maxSteps:=9^9)only[↓VX,VQ,seval,Int.reduceEq])
 ((refine ACall.pure (h1) ?_; try simp(maxSteps:=9^9)only[↓VX,VQ,seval]); try simp(maxSteps:=9^9)only[↓VX,VQ,seval,GL])
 repeat'(first|intro _|apply And.intro)
 all_goals try first|omega|(simp only[LL];omega)|exact nlC (by decide) _|exact nbC rfl
 ·have q : ¬ C3 = 0 := by assumption
  rw [if_pos q] at e0
  rw [e0]
  exact .inl ⟨q,rfl⟩
 have hc : C3 = 0 := Decidable.byContradiction (by assumption)
 have hb := hok hc
 obtain ⟨hP1,hP2⟩ := hP hc
 rw [if_neg (fun w => w hc)] at e0
 refine aloop (envCOk _ _ _) (fun j : Nat => ⟨[(1,.v (.slice 1 ((pairsL P).map (AV.int .i64)))),(2,.v (.eptr [.int .i64 b.harb.ports,.int .i64 b.harb.lost,.slice 5 (b.harb.ships.map shipA),.slice 3 (b.harb.letters.map letA),.slice 4 (b.harb.reports.map repA),.slice 1 (b.words.map (AV.int .i64)),.int .i64 b.back,.slice 3 (b.answers.map ansA)])),(9,.v (.int .i64 (2 * j : Int)))],[],[],m⟩)
  (fun j => j ≤ P.length ∧ ∀ p ∈ P.take j,¬ offP 0 (p.2 - 1) p.1 = true) (fun j => P.length - j) 0 (fun _ => rfl) ⟨by omega,by simp⟩ (by (simp only [FE,↓FP,seval]); try simp) ?_
 rintro j ⟨hj,hno⟩
 have hpa1 := hpa j
 by_cases hjl : j < P.length
 ·obtain ⟨p1,p2⟩ := hpa1 hjl
  have hp2 := hP2 j hjl
  have ho := hoff 0 ((P[j]!).2 - 1) (P[j]!).1
  have n1 : (2 * (j : Int) + 1).toNat = 2 * j + 1 := by omega
  have n2 : (2 * (j : Int)).toNat = 2 * j := by omega
  simp(maxSteps:=9^9)only[↓VX,VQ,seval]
  repeat'(first|intro _|apply And.intro)
  all_goals try first|omega|(simp only[LL];omega)|exact nlC (by decide) _|exact nbC rfl
  (refine adraw (by first | exact envOk _ | exact envCOk _ _ _) mixed [⟨false,false,0⟩,⟨false,false,0⟩,⟨false,false,0⟩,⟨false,false,0⟩,⟨false,false,0⟩,⟨false,false,0⟩,⟨false,false,0⟩,⟨false,false,0⟩,⟨false,false,0⟩,⟨false,false,0⟩,⟨false,false,0⟩,⟨false,false,0⟩] (by kernel_rfl) ?_; show vcOpsD _ _ _ (_ :: _) _ _)
  simp(maxSteps:=9^9)only[↓VX,VQ,seval,↓ixZ,n1,n2,p1,p2]
  repeat'(first|intro _|apply And.intro)
  all_goals try first|omega|(simp only[LL];omega)|exact nlC (by decide) _|exact nbC rfl
  refine VPure.of ho ?_
  cases hof : offP 0 ((P[j]!).2 - 1) (P[j]!).1
  ·simp(maxSteps:=9^9)only[↓VX,VQ,seval]
   repeat'(first|intro _|apply And.intro)
   all_goals try first|omega|(simp only[LL];omega)|exact nlC (by decide) _|exact nbC rfl
   refine ⟨j + 1,⟨by omega,forall_take_succ hjl hno (by rw [← getD_any hjl,hof]; decide)⟩,by dsimp only; omega,?_⟩
   (simp only [FE,↓FP,seval])
   rw [show (2 * ((j + 1 : Nat) : Int)) = 2 * (j : Int) + 2 by omega]
  ·have h4 : renterE b P = 4 := by
    rw [e0,if_pos]
    unfold pairsE
    exact List.any_eq_true.2 ⟨_,(by rw [getD_any hjl]; exact List.getElem_mem hjl : P[j]! ∈ P),hof⟩
   simp(maxSteps:=9^9)only[↓VX,VQ,seval]
   repeat'(first|intro _|apply And.intro)
   all_goals try first|omega|(simp only[LL];omega)|exact nlC (by decide) _|exact nbC rfl
   rw [h4]
   exact .inl ⟨by decide,rfl⟩
 ·have hje : j = P.length := by omega
  subst hje
  rw [List.take_length] at hno
  have h0 : renterE b P = 0 := by
   rw [e0,if_neg]
   unfold pairsE
   rw [List.any_eq_true]
   rintro ⟨p,hp,h⟩
   exact hno p hp h
  rw [h0]
  simp(maxSteps:=9^9)only[↓VX,VQ,seval]
  repeat'(first|intro _|apply And.intro)
  all_goals try first|omega|(simp only[LL];omega)|exact nlC (by decide) _|exact nbC rfl
  refine ACall.told (hlk hb) ?_
  rintro r2 m2 ⟨bk,rfl,g1,g2⟩
  simp(maxSteps:=9^9)only[↓VX,VQ,seval]
  refine .inr ⟨hb,fun p hp => ?_,bk,rfl,g1,g2⟩
  have := hno p hp
  rw [Bool.not_eq_true,offP_false] at this
  exact this
theorem index_enter (b : RBook) (n below : Int) : indexB b n below = renterE b [(n,below)] := by
 unfold indexB renterE pairsE
 by_cases q : (checkB b).2.2 = 0
 ·rw [if_pos q,if_neg (not_not_intro q)]
  simp
 ·rw [if_neg q,if_pos q]
theorem index2_enter (b : RBook) (x y : Int) : indexB2 b x y = renterE b [(x,b.answers.length),(y,b.words.length)] := by
 unfold indexB2 indexB renterE pairsE
 by_cases q : (checkB b).2.2 = 0
 ·have hw := (bok_check q).w
  rw [if_pos q,if_neg (not_not_intro q),hw]
  by_cases q1 : offP 0 ((b.answers.length : Int) - 1) x = true
  ·simp [q1,q]
  ·simp [q1,q]
 ·rw [if_neg q,if_pos q,if_neg q]
def orTo (b : RBook) (n : Nat) : Nat := orS b ((truthsR b.harb []).take n)
theorem orTo_succ {b : RBook} {n : Nat} (h : n < (truthsR b.harb []).length) : orTo b (n + 1) = orTo b n ||| canS b (fateF b.harb ((truthsR b.harb [])[n]!)) := by
 unfold orTo orS
 rw [List.take_succ_eq_append_getElem h,List.foldl_append,getD_any h]; rfl
theorem could_top (b : RBook) (hs : hnamesFit b.harb) (answer : Int) : PCall Try.prog 6 [bookA b,.int .i64 answer] (.tuple [ints (couldR b answer).1,.int .i64 (couldR b answer).2]) := by
 intro m
 refine ACall.forget ?_
 have hen := renter_c b hs [(answer,b.answers.length)] (fun q => ⟨by simp,fun j hj => by
  have : j = 0 := by simp at hj; omega
  subst this
  have := (bok_check q).n
  show (0 : Int) ≤ b.answers.length ∧ (b.answers.length : Int) ≤ 1000
  omega⟩) m
 have e0 : couldR b answer = if indexB b answer b.answers.length = 0 then (couldC b (truthsR b.harb []) answer.toNat b.harb.letters.length,0) else ([],indexB b answer b.answers.length) := rfl
 rw [index_enter] at e0
 have hpl : pairsL [(answer,(b.answers.length : Int))] = [answer,(b.answers.length : Int)] := rfl
 rw [hpl] at hen
 have hcb := fun (hb : BOk b) (a : Nat) (ha : a < b.answers.length) => could_bits hb (truthsR b.harb []) ha
 have hT := fun (hb : BOk b) (i : Nat) (q : i < (truthsR b.harb []).length) => truths_tok hb.h (but := []) (t := (truthsR b.harb [])[i]!) (by rw [getD_any q]; exact List.getElem_mem q)
 have htl := fun (hb : BOk b) => truths_len hb.h []
 have hcan := fun (hb : BOk b) (F K : AV) (least : Int) (bk : Nat) (m : Mem) (i : Nat) (q : i < (truthsR b.harb []).length) => can_c b hb (fateF b.harb ((truthsR b.harb [])[i]!)) (fate_ok hb.h (hT hb i q)) (.slice 3 (b.answers.map ansA)) F K least bk m
 have hos := fun (i : Nat) => orTo_succ (b := b) (n := i)
 have hol := fun (hb : BOk b) (i : Nat) => orS_lt hb ((truthsR b.harb []).take i)
 have hoa : orTo b (truthsR b.harb []).length = orS b (truthsR b.harb []) := by unfold orTo; rw [List.take_length]
 have hcl := fun (hb : BOk b) (t : RTru) => show canS b (fateF b.harb t) < 2 ^ 12 from Nat.lt_of_lt_of_le (setOf_lt _ _) (Nat.pow_le_pow_right (by decide) (by have := hb.n; omega))
 simp only [bookA,bookL,harbA,harbL,ints,List.cons_append,List.nil_append,List.map_cons,List.map_nil] at hen ⊢
 (refine acall_intro (E := envC (modeAt [] []) false []) (envCOk _ _ _) rfl Try.func6 rfl Try.call6 (by kernel_rfl) (by simp [Try.ntmps6]) ?_; simp only [Try.f6];  simp(maxSteps:=9^9)only[↓VX,VQ,seval,Int.reduceEq])
 repeat'(first|intro _|apply And.intro)
 all_goals try first|omega|(simp only[LL];omega)|exact nlC (by decide) _|exact nbC rfl
 refine ACall.told hen ?_
 rintro r m1 (⟨z1,rfl,rfl⟩ | ⟨z1,hb,z2,bk,rfl,g1,g2⟩)
 ·rw [if_neg z1] at e0
  rw [e0]
  generalize renterE b [(answer,(b.answers.length : Int))] = E at *
  simp(maxSteps:=9^9)only[↓VX,VQ,seval]
  repeat'(first|intro _|apply And.intro)
  all_goals try first|omega|(simp only[LL];omega)|exact nlC (by decide) _|exact nbC rfl
  exact ⟨m1,fun _ _ h => h,rfl⟩
 ·rw [if_pos z1] at e0
  have z3 := z2 _ (List.mem_singleton.2 rfl)
  dsimp only at z3
  obtain ⟨a,rfl⟩ : ∃ a : Nat,answer = (a : Int) := ⟨answer.toNat,by omega⟩
  rw [Int.toNat_natCast] at e0
  have ha : a < b.answers.length := by omega
  rw [hcb hb a ha] at e0
  rw [e0]
  clear hen hcb e0
  have hna := hb.n
  have hw := hb.w
  have hnl := hb.h.nl
  have htl1 := htl hb
  have hcan1 := hcan hb
  have hol1 := hol hb
  have hcl1 := hcl hb
  obtain ⟨⟨fb,cap,km,kv,tail,k1,k2,k3,k4,k5,k6⟩,k7⟩ := g2
  have hcbk := k1
  simp only [bookC,harbL,ints,List.cons_append,List.nil_append] at hcbk
  simp(maxSteps:=9^9)only[↓VX,VQ,seval,hcbk]
  repeat'(first|intro _|apply And.intro)
  all_goals try first|omega|(simp only[LL];omega)|exact nlC (by decide) _|exact nbC rfl
  refine aloop (envCOk _ _ _) (fun i : Nat => ⟨[(1,.v (.int .i64 a)),(2,.v (.eptr [.int .i64 b.harb.ports,.int .i64 b.harb.lost,.slice 5 (b.harb.ships.map shipA),.slice 3 (b.harb.letters.map letA),.slice 4 (b.harb.reports.map repA),.slice 1 (b.words.map (AV.int .i64)),.int .i64 b.back,.slice 3 (b.answers.map ansA)])),
    (4,.v (.slice 1 [])),(6,.v (.ptr bk 0)),(7,.v (.int .i64 (orTo b i : Nat))),(27,.v (.mslice fb 0 (truthsR b.harb []).length cap)),(28,.v (.int .i64 (truthsR b.harb []).length)),(29,.v (.int .i64 i))],[4],[],m1⟩)
   (fun i => i ≤ (truthsR b.harb []).length) (fun i => (truthsR b.harb []).length - i) 0 (fun _ => rfl) (by omega) (by (simp only [FE,↓FP,seval]); try simp [orTo,orS]) ?_
  intro i hi
  have hos1 := hos i
  have hol2 := hol1 i
  have hol3 : orTo b i = orS b ((truthsR b.harb []).take i) := rfl
  by_cases hil : i < (truthsR b.harb []).length
  ·obtain ⟨rr,hd1⟩ := fats_at b.harb (truthsR b.harb []) tail hil
   have hcl2 := hcl1 ((truthsR b.harb [])[i]!)
   have hcc := hcan1 (.mslice fb 0 (truthsR b.harb []).length cap) (.map km) (leastR b) bk m1 i hil k1 k7
   have hos2 := hos1 hil
   simp only [fateFA] at hcc
   simp(maxSteps:=9^9)only[↓VX,VQ,seval,k2,hd1]
   repeat'(first|intro _|apply And.intro)
   all_goals try first|omega|(simp only[LL];omega)|exact nlC (by decide) _|exact nbC rfl
   refine ACall.told hcc ?_
   rintro r2 m2 ⟨rfl,rfl⟩
   simp(maxSteps:=9^9)only[↓VX,VQ,seval]
   repeat'(first|intro _|apply And.intro)
   all_goals try first|omega|(simp only[LL];omega)|exact nlC (by decide) _|exact nbC rfl
   refine ⟨i + 1,by dsimp only; omega,by dsimp only; omega,?_⟩
   (simp only [FE,↓FP,seval])
   rw [hos2]
   try simp
  ·have hie : i = (truthsR b.harb []).length := by omega
   subst hie
   have hpl2 : ∀ k,(idxF (fun k => (orS b (truthsR b.harb [])).testBit (a * 4 + k)) k).length ≤ k := fun k => idxF_length _ k
   have hps := idxF_succ (fun k => (orS b (truthsR b.harb [])).testBit (a * 4 + k))
   rw [hoa]
   rw [← hol3,hoa] at hol2
   generalize orS b (truthsR b.harb []) = S at *
   simp(maxSteps:=9^9)only[↓VX,VQ,seval]
   repeat'(first|intro _|apply And.intro)
   all_goals try first|omega|(simp only[LL];omega)|exact nlC (by decide) _|exact nbC rfl
   refine aloop (envCOk _ _ _) (fun k : Nat => ⟨[(1,.v (.int .i64 a)),(4,.v (.slice 1 ((idxF (fun k => S.testBit (a * 4 + k)) k).map (AV.int .i64)))),(7,.v (.int .i64 (S : Nat))),(41,.v (.int .i64 b.words.length)),(42,.v (.int .i64 k))],[4],[],m1⟩)
    (fun k => k ≤ b.words.length) (fun k => b.words.length - k) 0 (fun _ => rfl) (by omega) (by (simp only [FE,↓FP,seval]); try simp [idxF]) ?_
   intro k hk
   have hpl3 := hpl2 k
   have hps1 := hps k
   have hsh : ((a : Int) * 4 + (k : Int)).toNat = a * 4 + k := by omega
   have hle2 : S / 2 ^ (a * 4 + k) ≤ S := Nat.div_le_self _ _
   simp(maxSteps:=9^9)only[↓VX,VQ,seval,hsh]
   repeat'(first|intro _|apply And.intro)
   all_goals try first|omega|(simp only[LL];omega)|exact nlC (by decide) _|exact nbC rfl
   ·rw [if_pos (by assumption)] at hps1
    (refine ⟨k + 1,by first | omega | (dsimp only; omega),by dsimp only; omega,?_⟩; (simp only [FE,↓FP,seval]); try simp [hps1])
   ·rw [if_neg (by assumption)] at hps1
    (refine ⟨k + 1,by first | omega | (dsimp only; omega),by dsimp only; omega,?_⟩; (simp only [FE,↓FP,seval]); try simp [hps1])
   ·have hke : k = b.harb.letters.length := by omega
    subst hke
    refine ⟨m,fun x y h => g1 _ _ h,?_,rfl⟩
    rfl
theorem belongs1_c (F : AV) (w : List Int) (hw : w.length ≤ 3) (hr : ∀ x ∈ w,-1 ≤ x ∧ x ≤ 4) (a : Nat) (ha : a < w.length) (k : Int) (hk : 0 ≤ k ∧ k ≤ 4) : PCall Try.prog 43 [F,ownA w,.eptr [.int .i64 a],.eptr [.int .i64 k]] (.bool (decide (w[a]! = k))) := by
 intro m
 have hat := ownE_at ha hw
 have hlen := ownE_length w
 have hdr := drop_ints (l := ownE w) (k := a) (by omega)
 rw [hat] at hdr
 have hb := hr (w[a]!) (by rw [getD_any ha]; exact List.getElem_mem ha)
 have hm := ownE_mlen w
 have e0 : decide (w[a]! = k) = decide (w[a]! + 1 = k + 1) := by rw [decide_eq_decide]; omega
 rw [e0]
 simp only [ownA]
 (refine acall_intro (E := envC (modeAt [] []) false []) (envCOk _ _ _) rfl Try.func43 rfl Try.call43 (by kernel_rfl) (by simp [Try.ntmps43]) ?_; simp only [Try.f43];  simp(maxSteps:=9^9)only[↓VX,VQ,seval,hdr])
 repeat'(first|intro _|apply And.intro)
 all_goals try first|omega|(simp only[LL];omega)|exact nlC (by decide) _|exact nbC rfl
 (refine adraw (by first | exact envOk _ | exact envCOk _ _ _) mixed [⟨false,false,0⟩,⟨false,false,0⟩,⟨false,false,0⟩,⟨false,false,0⟩,⟨false,false,0⟩,⟨false,false,0⟩,⟨false,false,0⟩] (by kernel_rfl) ?_; show vcOpsD _ _ _ (_ :: _) _ _)
 simp(maxSteps:=9^9)only[↓VX,VQ,seval,hdr]
 repeat'(first|intro _|apply And.intro)
 all_goals try first|omega|(simp only[LL];omega)|exact nlC (by decide) _|exact nbC rfl
theorem fair_range {b : RBook} (hb : BOk b) {x : RTru × List Int} (hx : x ∈ fairR b) : x.2.length = b.answers.length ∧ ∀ y ∈ x.2,-1 ≤ y ∧ y ≤ 4 := by
 obtain ⟨_,h2,_⟩ := fair_mem.1 hx
 obtain ⟨h3,h4⟩ := mem_waysR.1 h2
 refine ⟨h3,fun y hy => ?_⟩
 obtain ⟨i,hi,rfl⟩ := List.mem_iff_getElem.1 hy
 have := (h4 i (by omega)).range
 rw [getD_any hi] at this
 have := hb.h.nl
 omega
theorem belongs_top (b : RBook) (hs : hnamesFit b.harb) (answer letter : Int) : PCall Try.prog 33 [bookA b,.int .i64 answer,.int .i64 letter] (.tuple [.int .i64 (belongsR b answer letter).1,.int .i64 (belongsR b answer letter).2]) := by
 intro m
 refine ACall.forget ?_
 have hen := renter_c b hs [(answer,b.answers.length),(letter,b.words.length)] (fun q => ⟨by simp,fun j hj => by
  have hb := bok_check q
  have h1 := hb.n
  have h2 := hb.h.nl
  have h3 := hb.w
  have hj2 : j = 0 ∨ j = 1 := by simp at hj; omega
  rcases hj2 with rfl | rfl
  ·show (0 : Int) ≤ b.answers.length ∧ (b.answers.length : Int) ≤ 1000
   omega
  ·show (0 : Int) ≤ b.words.length ∧ (b.words.length : Int) ≤ 1000
   omega⟩) m
 have e0 : belongsR b answer letter = if indexB2 b answer letter = 0 then (settledR (oftB (fairR b) answer.toNat letter (fairR b).length) (fairR b).length,0) else (0,indexB2 b answer letter) := rfl
 rw [index2_enter,oft_count] at e0
 have hpl : pairsL [(answer,(b.answers.length : Int)),(letter,(b.words.length : Int))] = [answer,(b.answers.length : Int),letter,(b.words.length : Int)] := rfl
 rw [hpl] at hen
 have hask := fun (hb : BOk b) (bk : Nat) (m : Mem) h (caps : List AV) (Q : RTru × List Int → Bool) hq => ask_c b hb (.slice 3 (b.answers.map ansA)) bk m h 43 caps Q hq
 simp only [bookA,bookL,harbA,harbL,ints,List.cons_append,List.nil_append,List.map_cons,List.map_nil] at hen ⊢
 (refine acall_intro (E := envC (modeAt [] []) false []) (envCOk _ _ _) rfl Try.func33 rfl Try.call33 (by kernel_rfl) (by simp [Try.ntmps33]) ?_; simp only [Try.f33];  simp(maxSteps:=9^9)only[↓VX,VQ,seval,Int.reduceEq])
 repeat'(first|intro _|apply And.intro)
 all_goals try first|omega|(simp only[LL];omega)|exact nlC (by decide) _|exact nbC rfl
 refine ACall.told hen ?_
 rintro r m1 (⟨z1,rfl,rfl⟩ | ⟨z1,hb,z2,bk,rfl,g1,g2⟩)
 ·rw [if_neg z1] at e0
  rw [e0]
  generalize renterE b [(answer,(b.answers.length : Int)),(letter,(b.words.length : Int))] = E at *
  simp(maxSteps:=9^9)only[↓VX,VQ,seval]
  repeat'(first|intro _|apply And.intro)
  all_goals try first|omega|(simp only[LL];omega)|exact nlC (by decide) _|exact nbC rfl
  exact ⟨m1,fun _ _ h => h,rfl⟩
 ·rw [if_pos z1] at e0
  have z3 := z2 _ (List.mem_cons_self ..)
  have z4 := z2 _ (List.mem_cons_of_mem _ (List.mem_cons_self ..))
  dsimp only at z3 z4
  have hnl := hb.h.nl
  have hw := hb.w
  have hna := hb.n
  obtain ⟨a,rfl⟩ : ∃ a : Nat,answer = (a : Int) := ⟨answer.toNat,by omega⟩
  rw [Int.toNat_natCast] at e0
  rw [e0]
  clear hen e0
  have hak := hask hb bk m1 g2 [.eptr [.int .i64 a],.eptr [.int .i64 letter]] (fun x => decide (x.2[a]! = letter)) fun x hx => by
   obtain ⟨h1,h2⟩ := fair_range hb hx
   exact belongs1_c _ x.2 (by omega) h2 a (by omega) letter (by omega)
  simp(maxSteps:=9^9)only[↓VX,VQ,seval,buildV]
  repeat'(first|intro _|apply And.intro)
  all_goals try first|omega|(simp only[LL];omega)|exact nlC (by decide) _|exact nbC rfl
  refine ACall.told hak ?_
  rintro r2 m2 ⟨rfl,rfl⟩
  simp(maxSteps:=9^9)only[↓VX,VQ,seval]
  exact ⟨m,fun x y h => g1 _ _ h,rfl,rfl⟩
theorem rupTo_c (n : Nat) (hn : n ≤ 1000) : PCall Try.prog 22 [.int .i64 n] (ints (upToL n)) := by
 intro m
 have hs := upToL_succ
 have hl : ∀ k,(upToL k).length = k := fun k => by simp [upToL]
 have h0 : upToL 0 = [] := rfl
 generalize upToL = U at *
 simp only [ints] at *
 (refine acall_intro (E := envC (modeAt [] []) false []) (envCOk _ _ _) rfl Try.func22 rfl Try.call22 (by kernel_rfl) (by simp [Try.ntmps22]) ?_; simp only [Try.f22];  simp(maxSteps:=9^9)only[↓VX,VQ,seval,Int.reduceEq])
 refine aloop (envCOk _ _ _) (fun i : Nat => ⟨[(2,.v (.slice 1 ((U i).map (AV.int .i64)))),(4,.v (.int .i64 n)),(5,.v (.int .i64 i))],[2],[],m⟩)
  (fun i => i ≤ n) (fun i => n - i) 0 (fun _ => rfl) (by omega) (by (simp only [FE,↓FP,seval]); try simp [h0]) ?_
 intro i hi
 have hs1 := hs i
 have hl1 := hl i
 simp(maxSteps:=9^9)only[↓VX,VQ,seval]
 repeat'(first|intro _|apply And.intro)
 all_goals try first|omega|(simp only[LL];omega)|exact nlC (by decide) _|exact nbC rfl
 ·(refine ⟨i + 1,by first | omega | (dsimp only; omega),by dsimp only; omega,?_⟩; (simp only [FE,↓FP,seval]); try simp [hs1])
 ·rw [show n = i by omega]
theorem rsorted_c (g : FuncId) (caps : List AV) (H : Int → Int) (l : List Int) (hl : l.length ≤ 1000) (m : Mem) (h : ∀ x ∈ l,ACall Try.prog g ([.int .i64 x] ++ caps) m fun r m' => r = .int .i64 (H x) ∧ m' = m) :
  ACall Try.prog 21 [ints l,.fn (.func g) [] caps] m fun r m' => r = .tuple [ints (l.filter fun x => decide (H x = 1)),ints (l.filter fun x => !decide (H x = 2))] ∧ m' = m := by
 have hp : ∀ i,i < l.length → (l.take (i + 1)).filter (fun x => decide (H x = 1)) = if H (l[i]!) = 1 then (l.take i).filter (fun x => decide (H x = 1)) ++ [l[i]!] else (l.take i).filter (fun x => decide (H x = 1)) := fun i hi => by
  rw [List.take_succ_eq_append_getElem hi,List.filter_append,getD_any hi]
  by_cases q : H l[i] = 1 <;> simp [q]
 have hq : ∀ i,i < l.length → (l.take (i + 1)).filter (fun x => !decide (H x = 2)) = if H (l[i]!) = 2 then (l.take i).filter (fun x => !decide (H x = 2)) else (l.take i).filter (fun x => !decide (H x = 2)) ++ [l[i]!] := fun i hi => by
  rw [List.take_succ_eq_append_getElem hi,List.filter_append,getD_any hi]
  by_cases q : H l[i] = 2 <;> simp [q]
 have hpl : ∀ i,((l.take i).filter (fun x => decide (H x = 1))).length ≤ l.length := fun i => Nat.le_trans (List.length_filter_le _ _) (by rw [List.length_take]; omega)
 have hql : ∀ i,((l.take i).filter (fun x => !decide (H x = 2))).length ≤ l.length := fun i => Nat.le_trans (List.length_filter_le _ _) (by rw [List.length_take]; omega)
 have hp0 : (l.take 0).filter (fun x => decide (H x = 1)) = [] := rfl
 have hq0 : (l.take 0).filter (fun x => !decide (H x = 2)) = [] := rfl
 have hpe : l.filter (fun x => decide (H x = 1)) = (l.take l.length).filter (fun x => decide (H x = 1)) := by rw [List.take_length]
 have hqe : l.filter (fun x => !decide (H x = 2)) = (l.take l.length).filter (fun x => !decide (H x = 2)) := by rw [List.take_length]
 rw [hpe,hqe]
 clear hpe hqe
 have hcall := fun (i : Nat) (q : i < l.length) => h (l[i]!) (by rw [getD_any q]; exact List.getElem_mem q)
 simp only [ints,List.cons_append,List.nil_append] at *
 (refine acall_intro (E := envC (modeAt [] []) false []) (envCOk _ _ _) rfl Try.func21 rfl Try.call21 (by kernel_rfl) (by simp [Try.ntmps21]) ?_; simp only [Try.f21];  simp(maxSteps:=9^9)only[↓VX,VQ,seval,Int.reduceEq])
 repeat'(first|intro _|apply And.intro)
 all_goals try first|omega|(simp only[LL];omega)|exact nlC (by decide) _|exact nbC rfl
 refine aloop (envCOk _ _ _) (fun i : Nat => ⟨[(1,.v (.fn (.func g) [] caps)),(4,.v (.slice 1 (((l.take i).filter (fun x => decide (H x = 1))).map (AV.int .i64)))),(5,.v (.slice 1 (((l.take i).filter (fun x => !decide (H x = 2))).map (AV.int .i64)))),(9,.v (.slice 1 (l.map (AV.int .i64)))),(10,.v (.int .i64 l.length)),(11,.v (.int .i64 i))],[4,5],[],m⟩)
  (fun i => i ≤ l.length) (fun i => l.length - i) 0 (fun _ => rfl) (by omega) (by (simp only [FE,↓FP,seval]); try simp) ?_
 intro i hi
 have hp1 := hp i
 have hq1 := hq i
 have hpl1 := hpl i
 have hql1 := hql i
 have hc1 := hcall i
 generalize hP : (l.take i).filter (fun x => decide (H x = 1)) = P at *
 generalize hQ : (l.take i).filter (fun x => !decide (H x = 2)) = Q at *
 simp(maxSteps:=9^9)only[↓VX,VQ,seval,↓ixZ]
 repeat'(first|intro _|apply And.intro)
 all_goals try first|omega|(simp only[LL];omega)|exact nlC (by decide) _|exact nbC rfl
 ·have hil : i < l.length := by omega
  have hp2 := hp1 hil
  have hq2 := hq1 hil
  refine ACall.told (hc1 hil) ?_
  rintro r2 m2 ⟨rfl,rfl⟩
  generalize H (l[i]!) = E at *
  simp(maxSteps:=9^9)only[↓VX,VQ,seval]
  repeat'(first|intro _|apply And.intro)
  all_goals try first|omega|(simp only[LL];omega)|exact nlC (by decide) _|exact nbC rfl
  ·rw [if_pos (by assumption)] at hp2
   rw [if_neg (by assumption)] at hq2
   (refine ⟨i + 1,by first | omega | (dsimp only; omega),by dsimp only; omega,?_⟩; (simp only [FE,↓FP,seval]); try simp [hp2,hq2,-List.getElem!_eq_getElem?_getD,-List.map_take])
  ·rw [if_neg (by assumption)] at hp2
   rw [if_neg (by assumption)] at hq2
   (refine ⟨i + 1,by first | omega | (dsimp only; omega),by dsimp only; omega,?_⟩; (simp only [FE,↓FP,seval]); try simp [hp2,hq2,-List.getElem!_eq_getElem?_getD,-List.map_take])
  ·rw [if_neg (by assumption)] at hp2
   rw [if_pos (Decidable.byContradiction (by assumption))] at hq2
   (refine ⟨i + 1,by first | omega | (dsimp only; omega),by dsimp only; omega,?_⟩; (simp only [FE,↓FP,seval]); try simp [hp2,hq2,-List.getElem!_eq_getElem?_getD,-List.map_take])
 ·have hie : l.length = i := by omega
  rw [hie,hP,hQ]
theorem upTo_filter (p : Int → Bool) (n : Nat) : (upToL n).filter p = idxF (fun k => p (k : Int)) n := by
 unfold upToL idxF
 rw [List.filter_map]
 rfl
theorem upToL_mem {n : Nat} {x : Int} (h : x ∈ upToL n) : ∃ k : Nat,k < n ∧ x = (k : Int) := by
 unfold upToL at h
 obtain ⟨k,hk,rfl⟩ := List.mem_map.1 h
 exact ⟨k,List.mem_range.1 hk,rfl⟩
theorem strays11_c (F : AV) (w : List Int) (hw : w.length ≤ 3) (a : Nat) (ha : a < w.length) : PCall Try.prog 25 [F,ownA w,.eptr [.int .i64 a]] (.bool (decide (w[a]! = -1))) := by
 intro m
 have hat := ownE_at ha hw
 have hlen := ownE_length w
 have hdr := drop_ints (l := ownE w) (k := a) (by omega)
 rw [hat] at hdr
 have hm := ownE_mlen w
 have e0 : decide (w[a]! = -1) = decide (w[a]! + 1 = 0) := by rw [decide_eq_decide]; omega
 rw [e0]
 simp only [ownA]
 (refine acall_intro (E := envC (modeAt [] []) false []) (envCOk _ _ _) rfl Try.func25 rfl Try.call25 (by kernel_rfl) (by simp [Try.ntmps25]) ?_; simp only [Try.f25];  simp(maxSteps:=9^9)only[↓VX,VQ,seval,hdr])
 repeat'(first|intro _|apply And.intro)
 all_goals try first|omega|(simp only[LL];omega)|exact nlC (by decide) _|exact nbC rfl
theorem strays1_c (b : RBook) (hb : BOk b) (A : AV) (bk : Nat) (m : Mem) (h : Looked b A bk m) (a : Nat) (ha : a < b.answers.length) : ACall Try.prog 23 [.int .i64 a,.eptr [.ptr bk 0]] m fun r m' => r = .int .i64 (askF (fun x => decide (x.2[a]! = -1)) (fairR b)) ∧ m' = m := by
 have hna := hb.n
 have hak := ask_c b hb A bk m h 25 [.eptr [.int .i64 a]] (fun x => decide (x.2[a]! = -1)) fun x hx => by
  obtain ⟨h1,h2⟩ := fair_range hb hx
  exact strays11_c _ x.2 (by omega) a (by omega)
 (refine acall_intro (E := envC (modeAt [] []) false []) (envCOk _ _ _) rfl Try.func23 rfl Try.call23 (by kernel_rfl) (by simp [Try.ntmps23]) ?_; simp only [Try.f23];  simp(maxSteps:=9^9)only[↓VX,VQ,seval,buildV])
 repeat'(first|intro _|apply And.intro)
 all_goals try first|omega|(simp only[LL];omega)|exact nlC (by decide) _|exact nbC rfl
 refine ACall.told hak ?_
 rintro r2 m2 ⟨rfl,rfl⟩
 simp(maxSteps:=9^9)only[↓VX,VQ,seval]
theorem check_enter (b : RBook) : renterE b [] = (checkB b).2.2 := by
 unfold renterE pairsE
 by_cases q : (checkB b).2.2 = 0 <;> simp [q]
theorem straysR_is {b : RBook} (hb : BOk b) (e : (checkB b).2.2 = 0) : straysR b = (idxF (fun k => decide (askF (fun x : RTru × List Int => decide (x.2[k]! = -1)) (fairR b) = 1)) b.answers.length,idxF (fun k => !decide (askF (fun x : RTru × List Int => decide (x.2[k]! = -1)) (fairR b) = 2)) b.answers.length,0) := by
 unfold straysR
 rw [if_pos e]
 rw [allI_ask (fun k (x : RTru × List Int) => decide (x.2[k]! = -1)) (fairR b) _ _ fun k => oft_count _ k _,anyI_ask (fun k (x : RTru × List Int) => decide (x.2[k]! = -1)) (fairR b) _ _ (fair_pos hb) fun k => oft_count _ k _]
theorem waitsR_is {b : RBook} (hb : BOk b) (e : (checkB b).2.2 = 0) : waitsR b = (idxF (fun k => !decide (askF (fun x : RTru × List Int => !decide ((k : Int) ∈ x.2)) (fairR b) = 2)) b.harb.letters.length,idxF (fun k => decide (askF (fun x : RTru × List Int => !decide ((k : Int) ∈ x.2)) (fairR b) = 1)) b.harb.letters.length,0) := by
 unfold waitsR
 rw [if_pos e]
 rw [allI_ask (fun k (x : RTru × List Int) => !decide ((k : Int) ∈ x.2)) (fairR b) _ _ fun k => oftW_count _ k,anyI_ask (fun k (x : RTru × List Int) => !decide ((k : Int) ∈ x.2)) (fairR b) _ _ (fair_pos hb) fun k => oftW_count _ k]
theorem strays_top (b : RBook) (hs : hnamesFit b.harb) : PCall Try.prog 8 [bookA b] (.tuple [ints (straysR b).1,ints (straysR b).2.1,.int .i64 (straysR b).2.2]) := by
 intro m
 refine ACall.forget ?_
 have hen := renter_c b hs [] (fun _ => ⟨by simp,fun j hj => by simp at hj⟩) m
 have hpl : pairsL [] = [] := rfl
 rw [hpl,check_enter] at hen
 have hbad : (checkB b).2.2 ≠ 0 → straysR b = ([],[],(checkB b).2.2) := fun q => by unfold straysR; rw [if_neg q]
 have hgood := fun (hb : BOk b) e => straysR_is hb e
 have hst := fun (hb : BOk b) (bk : Nat) (m : Mem) (h : Looked b (.slice 3 (b.answers.map ansA)) bk m) a ha => strays1_c b hb (.slice 3 (b.answers.map ansA)) bk m h a ha
 have hso := fun (hb : BOk b) (bk : Nat) (m : Mem) (h : Looked b (.slice 3 (b.answers.map ansA)) bk m) => rsorted_c 23 [.eptr [.ptr bk 0]] (fun x => askF (fun y : RTru × List Int => decide (y.2[x.toNat]! = -1)) (fairR b)) (upToL b.answers.length) (by have := hb.n; simp [upToL]; omega) m fun x hx => by
  obtain ⟨k,hk,rfl⟩ := upToL_mem hx
  exact hst hb bk m h k hk
 simp only [upTo_filter,Int.toNat_natCast] at hso
 have hup := rupTo_c b.answers.length
 generalize upToL b.answers.length = U at *
 generalize straysR b = SR at *
 generalize (checkB b).2.2 = C at *
 simp only [bookA,bookL,harbA,harbL,ints,List.cons_append,List.nil_append,List.map_cons,List.map_nil] at hen hup hso ⊢
 (refine acall_intro (E := envC (modeAt [5] []) false []) (envCOk _ _ _) rfl Try.func8 rfl Try.call8 (by kernel_rfl) (by simp [Try.ntmps8]) ?_; simp only [Try.f8];  simp(maxSteps:=9^9)only[↓VX,VQ,seval,Int.reduceEq])
 repeat'(first|intro _|apply And.intro)
 all_goals try first|omega|(simp only[LL];omega)|exact nlC (by decide) _|exact nbC rfl
 refine ACall.told hen ?_
 rintro r m1 (⟨z1,rfl,rfl⟩ | ⟨z1,hb,z2,bk,rfl,g1,g2⟩)
 ·rw [hbad z1]
  simp(maxSteps:=9^9)only[↓VX,VQ,seval]
  repeat'(first|intro _|apply And.intro)
  all_goals try first|omega|(simp only[LL];omega)|exact nlC (by decide) _|exact nbC rfl
  exact ⟨m1,fun _ _ h => h,rfl⟩
 ·have hna := hb.n
  rw [hgood hb z1]
  clear hgood hbad
  have hup1 := hup (by omega)
  have hso1 := hso hb bk m1 g2
  simp(maxSteps:=9^9)only[↓VX,VQ,seval,z1]
  repeat'(first|intro _|apply And.intro)
  all_goals try first|omega|(simp only[LL];omega)|exact nlC (by decide) _|exact nbC rfl
  ((refine ACall.pure (hup1) ?_; try simp(maxSteps:=9^9)only[↓VX,VQ,seval]); try simp(maxSteps:=9^9)only[↓VX,VQ,seval,GL])
  refine ACall.told hso1 ?_
  rintro r2 m2 ⟨rfl,rfl⟩
  simp(maxSteps:=9^9)only[↓VX,VQ,seval]
  exact ⟨m,fun x y h => g1 _ _ h,rfl⟩
theorem ownE_takeW {w : List Int} (hw : w.length ≤ 3) : (ownE w).take w.length = w.map (· + 1) := by
 refine List.ext_getElem (by rw [List.length_take,ownE_length,List.length_map]; omega) fun i h1 h2 => ?_
 rw [List.length_map] at h2
 rw [List.getElem_take,List.getElem_map]
 have := ownE_at h2 hw
 rw [getD_any (by rw [ownE_length]; omega),getD_any h2] at this
 exact this
theorem waits11_c (b : RBook) (hb : BOk b) (F : AV) (w : List Int) (hw : w.length = b.answers.length) (k : Nat) (hk : k ≤ 4) : PCall Try.prog 27 [F,ownA w,.eptr (bookL b),.eptr [.int .i64 k]] (.bool (!decide ((k : Int) ∈ w))) := by
 intro m
 refine ACall.forget ?_
 have hna := hb.n
 have hlen := ownE_length w
 have hm := ownE_mlen w
 have hfl := ownE_flat w
 have hmem : decide ((k : Int) + 1 ∈ (ownE w).take b.answers.length) = decide ((k : Int) ∈ w) := by
  rw [← hw,ownE_takeW (by omega),decide_eq_decide,List.mem_map]
  constructor
  ·rintro ⟨x,hx,e⟩
   have : x = (k : Int) := by omega
   rw [← this]; exact hx
  ·exact fun h => ⟨_,h,rfl⟩
 have hco := fun (bo : Nat) (m : Mem) => containsM_c bo b.answers.length 3 (ownE w) ((k : Int) + 1) (by omega) (by omega) (by omega) m
 rw [hmem] at hco
 generalize decide ((k : Int) ∈ w) = R at *
 simp only [ownA,bookL,harbL,ints,List.cons_append,List.nil_append] at *
 (refine acall_intro (E := envC (modeAt [] [5]) false []) (envCOk _ _ _) rfl Try.func27 rfl Try.call27 (by kernel_rfl) (by simp [Try.ntmps27]) ?_; simp only [Try.f27];  simp(maxSteps:=9^9)only[↓VX,VQ,seval,])
 repeat'(first|intro _|apply And.intro)
 all_goals try first|omega|(simp only[LL];omega)|exact nlC (by decide) _|exact nbC rfl
 rename_i bo hbo
 (refine adraw (by first | exact envOk _ | exact envCOk _ _ _) mixed [⟨false,false,0⟩,⟨false,false,0⟩,⟨false,false,0⟩,⟨false,false,0⟩,⟨false,false,0⟩,⟨false,false,0⟩,⟨false,false,0⟩,⟨false,false,0⟩,⟨false,false,0⟩] (by kernel_rfl) ?_; show vcOpsD _ _ _ (_ :: _) _ _)
 simp(maxSteps:=9^9)only[↓VX,VQ,seval]
 repeat'(first|intro _|apply And.intro)
 all_goals try first|omega|(simp only[LL];omega)|exact nlC (by decide) _|exact nbC rfl
 refine VPure.at (hco bo _ (upd_same _ _ _)) ?_
 simp(maxSteps:=9^9)only[↓VX,VQ,seval]
 exact ⟨m,sub_upd hbo,rfl⟩
theorem waits1_c (b : RBook) (hb : BOk b) (A : AV) (bk : Nat) (m : Mem) (h : Looked b A bk m) (k : Nat) (hk : k ≤ 4) : ACall Try.prog 26 [.int .i64 k,.eptr [.ptr bk 0],.eptr (bookL b)] m fun r m' => r = .int .i64 (askF (fun x => !decide ((k : Int) ∈ x.2)) (fairR b)) ∧ m' = m := by
 have hak := ask_c b hb A bk m h 27 [.eptr (bookL b),.eptr [.int .i64 k]] (fun x => !decide ((k : Int) ∈ x.2)) fun x hx => by
  obtain ⟨h1,h2⟩ := fair_range hb hx
  exact waits11_c b hb _ x.2 h1 k hk
 simp only [bookL,harbL,ints,List.cons_append,List.nil_append] at *
 (refine acall_intro (E := envC (modeAt [] []) false []) (envCOk _ _ _) rfl Try.func26 rfl Try.call26 (by kernel_rfl) (by simp [Try.ntmps26]) ?_; simp only [Try.f26];  simp(maxSteps:=9^9)only[↓VX,VQ,seval,buildV])
 repeat'(first|intro _|apply And.intro)
 all_goals try first|omega|(simp only[LL];omega)|exact nlC (by decide) _|exact nbC rfl
 refine ACall.told hak ?_
 rintro r2 m2 ⟨rfl,rfl⟩
 simp(maxSteps:=9^9)only[↓VX,VQ,seval]
theorem waits_top (b : RBook) (hs : hnamesFit b.harb) : PCall Try.prog 9 [bookA b] (.tuple [ints (waitsR b).1,ints (waitsR b).2.1,.int .i64 (waitsR b).2.2]) := by
 intro m
 refine ACall.forget ?_
 have hen := renter_c b hs [] (fun _ => ⟨by simp,fun j hj => by simp at hj⟩) m
 have hpl : pairsL [] = [] := rfl
 rw [hpl,check_enter] at hen
 have hbad : (checkB b).2.2 ≠ 0 → waitsR b = ([],[],(checkB b).2.2) := fun q => by unfold waitsR; rw [if_neg q]
 have hgood := fun (hb : BOk b) e => waitsR_is hb e
 have hso := fun (hb : BOk b) (bk : Nat) (m : Mem) (h : Looked b (.slice 3 (b.answers.map ansA)) bk m) => rsorted_c 26 [.eptr [.ptr bk 0],.eptr (bookL b)] (fun x => askF (fun y : RTru × List Int => !decide (((x.toNat : Nat) : Int) ∈ y.2)) (fairR b)) (upToL b.harb.letters.length) (by have := hb.h.nl; simp [upToL]; omega) m fun x hx => by
  obtain ⟨k,hk,rfl⟩ := upToL_mem hx
  exact waits1_c b hb _ bk m h k (by have := hb.h.nl; omega)
 simp only [upTo_filter,Int.toNat_natCast] at hso
 have hup := rupTo_c b.harb.letters.length
 have hw := fun (hb : BOk b) => hb.w
 generalize upToL b.harb.letters.length = U at *
 generalize waitsR b = SR at *
 generalize (checkB b).2.2 = C at *
 simp only [bookA,bookL,harbA,harbL,ints,List.cons_append,List.nil_append,List.map_cons,List.map_nil] at hen hup hso ⊢
 (refine acall_intro (E := envC (modeAt [5] []) false []) (envCOk _ _ _) rfl Try.func9 rfl Try.call9 (by kernel_rfl) (by simp [Try.ntmps9]) ?_; simp only [Try.f9];  simp(maxSteps:=9^9)only[↓VX,VQ,seval,Int.reduceEq])
 repeat'(first|intro _|apply And.intro)
 all_goals try first|omega|(simp only[LL];omega)|exact nlC (by decide) _|exact nbC rfl
 refine ACall.told hen ?_
 rintro r m1 (⟨z1,rfl,rfl⟩ | ⟨z1,hb,z2,bk,rfl,g1,g2⟩)
 ·rw [hbad z1]
  simp(maxSteps:=9^9)only[↓VX,VQ,seval]
  repeat'(first|intro _|apply And.intro)
  all_goals try first|omega|(simp only[LL];omega)|exact nlC (by decide) _|exact nbC rfl
  exact ⟨m1,fun _ _ h => h,rfl⟩
 ·have hnl := hb.h.nl
  have hw1 := hw hb
  rw [hgood hb z1]
  clear hgood hbad
  have hup1 := hup (by omega)
  have hso1 := hso hb bk m1 g2
  simp(maxSteps:=9^9)only[↓VX,VQ,seval,z1,hw1]
  repeat'(first|intro _|apply And.intro)
  all_goals try first|omega|(simp only[LL];omega)|exact nlC (by decide) _|exact nbC rfl
  ((refine ACall.pure (hup1) ?_; try simp(maxSteps:=9^9)only[↓VX,VQ,seval]); try simp(maxSteps:=9^9)only[↓VX,VQ,seval,GL])
  refine ACall.told hso1 ?_
  rintro r2 m2 ⟨rfl,rfl⟩
  simp(maxSteps:=9^9)only[↓VX,VQ,seval]
  exact ⟨m,fun x y h => g1 _ _ h,rfl⟩
theorem eqOwns (a b c a' b' c' : Int) (w : World) : (Op.equalIn 10000 62 (.agg #[.int .i64 a,.int .i64 b,.int .i64 c]) (.agg #[.int .i64 a',.int .i64 b',.int .i64 c'])).run Try.prog w = .ok (decide (a = a') && (decide (b = b') && (decide (c = c') && true))) w := by
 have hsz : (sizeOf 3).run Try.prog w = .ok 1 w := tyok_3.size w
 have p0 := part3 (cs := #[.int .i64 a,.int .i64 b,.int .i64 c]) (off := 0) rfl w
 have p1 := part3 (cs := #[.int .i64 a,.int .i64 b,.int .i64 c]) (off := 1) rfl w
 have p2 := part3 (cs := #[.int .i64 a,.int .i64 b,.int .i64 c]) (off := 2) rfl w
 have t0 := part3 (cs := #[.int .i64 a',.int .i64 b',.int .i64 c']) (off := 0) rfl w
 have t1 := part3 (cs := #[.int .i64 a',.int .i64 b',.int .i64 c']) (off := 1) rfl w
 have t2 := part3 (cs := #[.int .i64 a',.int .i64 b',.int .i64 c']) (off := 2) rfl w
 have q0 := eqInt3 9998 a a' w
 have q1 := eqInt3 9998 b b' w
 have q2 := eqInt3 9998 c c' w
 rw [show (10000 : Nat) = 9999 + 1 from rfl,Op.equalIn]
 rw [show (9998 : Nat) + 1 = 9999 from rfl] at q0 q1 q2
 generalize hE : Op.equalIn 9999 = E
 rw [hE] at q0 q1 q2
 simp only [Bool.and_true]
 simp only [Sem.run_bind,run_underlying Try.underlying62,Result.andThen_ok,hsz]
 simp only [Std.Legacy.Range.forIn_eq_forIn_range',Std.Legacy.Range.size,Nat.sub_zero,Nat.add_sub_cancel,Nat.div_one,List.range'_succ,List.range'_zero,List.forIn_cons,List.forIn_nil,Nat.zero_add,Nat.reduceAdd,Nat.zero_mul,Nat.one_mul,Nat.mul_one,Nat.reduceMul,Sem.run_bind,p0,p1,p2,t0,t1,t2,q0,q1,q2,Result.andThen_ok,Sem.run_ite,Sem.run_pure]
 clear hE
 generalize decide (a = a') = A at *
 generalize decide (b = b') = B at *
 generalize decide (c = c') = C at *
 cases A <;> cases B <;> cases C <;> simp_all
theorem eqFlatOwns (a b c a' b' c' : Int) : EqFlat Try.prog 62 [.int .i64 a,.int .i64 b,.int .i64 c] [.int .i64 a',.int .i64 b',.int .i64 c'] (decide (a = a') && (decide (b = b') && (decide (c = c') && true))) := by
 intro vs vs' com w x y h h'
 obtain ⟨v1,vs,rfl,r1,h⟩ := Reps.cons_inv h
 obtain ⟨v2,vs,rfl,r2,h⟩ := Reps.cons_inv h
 obtain ⟨v3,vs,rfl,r3,h⟩ := Reps.cons_inv h
 obtain rfl := Reps.nil_inv h
 obtain ⟨u1,us,rfl,s1,h'⟩ := Reps.cons_inv h'
 obtain ⟨u2,us,rfl,s2,h'⟩ := Reps.cons_inv h'
 obtain ⟨u3,us,rfl,s3,h'⟩ := Reps.cons_inv h'
 obtain rfl := Reps.nil_inv h'
 obtain rfl := rep_int r1; obtain rfl := rep_int r2; obtain rfl := rep_int r3
 obtain rfl := rep_int s1; obtain rfl := rep_int s2; obtain rfl := rep_int s3
 have hg : Try.prog.eqGuardType Try.prog.depth 62 = false := by kernel_rfl
 have key := eqOwns a b c a' b' c' w
 constructor
 ·rw [Sem.run_bind,run_eqGuard_agg w .eql 62 x y _ _ hg,Result.andThen_ok,run_eql_struct,key]; rfl
 ·rw [Sem.run_bind,run_eqGuard_agg w .neq 62 x y _ _ hg,Result.andThen_ok,run_neq_struct,key]; rfl
def befC (x y : Int) : Bool := decide (y = 0) || (decide (0 < x) && decide (x < y))
def befO (a0 a1 a2 b0 b1 b2 : Int) : Bool := if a0 = b0 then (if a1 = b1 then (if a2 = b2 then false else befC a2 b2) else befC a1 b1) else befC a0 b0
theorem befO_c (a0 a1 a2 b0 b1 b2 : Int) : PCall Try.prog 20 [.agg [.int .i64 a0,.int .i64 a1,.int .i64 a2],.agg [.int .i64 b0,.int .i64 b1,.int .i64 b2]] (.bool (befO a0 a1 a2 b0 b1 b2)) := by
 intro m
 have heq := eqFlatOwns a0 a1 a2 b0 b1 b2
 have e0 : befO a0 a1 a2 b0 b1 b2 = if a0 = b0 then (if a1 = b1 then (if a2 = b2 then false else befC a2 b2) else befC a1 b1) else befC a0 b0 := rfl
 have e1 : ∀ x y,befC x y = (decide (y = 0) || (decide (0 < x) && decide (x < y))) := fun _ _ => rfl
 have e2 : eqCells [AV.int .i64 a0,AV.int .i64 a1,AV.int .i64 a2] [AV.int .i64 b0,AV.int .i64 b1,AV.int .i64 b2] = some (decide (a0 = b0) && (decide (a1 = b1) && (decide (a2 = b2) && true))) := by simp [eqCells]
 (refine acall_intro (E := envC (modeAt [] []) false []) (envCOk _ _ _) rfl Try.func20 rfl Try.call20 (by kernel_rfl) (by simp [Try.ntmps20]) ?_; simp only [Try.f20];  simp(maxSteps:=9^9)only[↓VX,VQ,seval,e2])
 refine ⟨by simpa only [Bool.and_true] using heq,fun q => ?_,fun q => ?_⟩
 ·simp only [Bool.and_eq_true,decide_eq_true_eq] at q
  rw [e0,if_pos q.1,if_pos q.2.1,if_pos q.2.2]
 have hne : ¬ (a0 = b0 ∧ a1 = b1 ∧ a2 = b2) := by simpa only [Bool.and_eq_true,decide_eq_true_eq] using q
 refine aloop (envCOk _ _ _) (fun i : Nat => ⟨[(2,.v (.eptr [.int .i64 a0,.int .i64 a1,.int .i64 a2])),(3,.v (.eptr [.int .i64 b0,.int .i64 b1,.int .i64 b2])),(9,.v (.int .i64 i))],[],[],m⟩)
  (fun i => i ≤ 3 ∧ (0 < i → a0 = b0) ∧ (1 < i → a1 = b1) ∧ (2 < i → a2 = b2)) (fun i => 3 - i) 0 (fun _ => rfl) ⟨by omega,fun h => absurd h (by omega),fun h => absurd h (by omega),fun h => absurd h (by omega)⟩ (by (simp only [FE,↓FP,seval]); try simp) ?_
 rintro i ⟨hi,i0,i1,i2⟩
 have hi4 : i = 0 ∨ i = 1 ∨ i = 2 ∨ i = 3 := by omega
 have c2 : ((2 : Nat) : Int) = 2 := rfl
 rcases hi4 with rfl | rfl | rfl | rfl
 ·by_cases h : a0 = b0
  ·have hT : (a0 = b0) = True := eq_true h
   simp(maxSteps:=9^9)only[↓VX,VQ,seval]
   (refine adraw (by first | exact envOk _ | exact envCOk _ _ _) mixed [⟨false,false,0⟩,⟨false,false,0⟩,⟨false,false,0⟩,⟨false,false,0⟩,⟨false,false,0⟩,⟨false,false,0⟩,⟨false,false,0⟩] (by kernel_rfl) ?_; show vcOpsD _ _ _ (_ :: _) _ _)
   simp(maxSteps:=9^9)only[↓VX,VQ,seval,hT]
   refine ⟨1,(by refine ⟨by omega,?_,?_,?_⟩ <;> intro _ <;> first | trivial | assumption | (exfalso; omega) | exact i0 (by omega) | exact i1 (by omega)),by dsimp only; omega,?_⟩
   (simp only [FE,↓FP,seval])
   try simp
  ·have hT : (a0 = b0) = False := eq_false h
   rw [if_neg h,e1] at e0
   simp(maxSteps:=9^9)only[↓VX,VQ,seval]
   (refine adraw (by first | exact envOk _ | exact envCOk _ _ _) mixed [⟨false,false,0⟩,⟨false,false,0⟩,⟨false,false,0⟩,⟨false,false,0⟩,⟨false,false,0⟩,⟨false,false,0⟩,⟨false,false,0⟩] (by kernel_rfl) ?_; show vcOpsD _ _ _ (_ :: _) _ _)
   simp(maxSteps:=9^9)only[↓VX,VQ,seval,hT]
   (refine adraw (by first | exact envOk _ | exact envCOk _ _ _) mixed [⟨false,false,0⟩,⟨false,false,0⟩,⟨false,false,0⟩,⟨false,false,0⟩,⟨false,false,0⟩,⟨false,false,0⟩,⟨false,false,0⟩,⟨false,false,0⟩,⟨false,false,0⟩,⟨false,false,0⟩,⟨false,false,0⟩,⟨false,false,0⟩,⟨false,false,0⟩,⟨false,false,0⟩,⟨false,false,0⟩,⟨false,false,0⟩,⟨false,false,0⟩,⟨false,false,0⟩,⟨false,false,0⟩,⟨false,false,0⟩] (by kernel_rfl) ?_; show vcOpsD _ _ _ (_ :: _) _ _)
   simp(maxSteps:=9^9)only[↓VX,VQ,seval]
   repeat'(first|intro _|apply And.intro)
   all_goals try first|omega|(simp only[LL];omega)|exact nlC (by decide) _|exact nbC rfl
   all_goals
    rw [e0]
    clear e0 e1 e2 heq i0 i1 i2 hne
    congr 1
    simp_all <;> omega
 ·by_cases h : a1 = b1
  ·have hT : (a1 = b1) = True := eq_true h
   simp(maxSteps:=9^9)only[↓VX,VQ,seval]
   (refine adraw (by first | exact envOk _ | exact envCOk _ _ _) mixed [⟨false,false,0⟩,⟨false,false,0⟩,⟨false,false,0⟩,⟨false,false,0⟩,⟨false,false,0⟩,⟨false,false,0⟩,⟨false,false,0⟩] (by kernel_rfl) ?_; show vcOpsD _ _ _ (_ :: _) _ _)
   simp(maxSteps:=9^9)only[↓VX,VQ,seval,hT]
   refine ⟨2,(by refine ⟨by omega,?_,?_,?_⟩ <;> intro _ <;> first | trivial | assumption | (exfalso; omega) | exact i0 (by omega) | exact i1 (by omega)),by dsimp only; omega,?_⟩
   (simp only [FE,↓FP,seval])
   try simp
  ·have hT : (a1 = b1) = False := eq_false h
   rw [if_pos (i0 (by omega)),if_neg h,e1] at e0
   simp(maxSteps:=9^9)only[↓VX,VQ,seval]
   (refine adraw (by first | exact envOk _ | exact envCOk _ _ _) mixed [⟨false,false,0⟩,⟨false,false,0⟩,⟨false,false,0⟩,⟨false,false,0⟩,⟨false,false,0⟩,⟨false,false,0⟩,⟨false,false,0⟩] (by kernel_rfl) ?_; show vcOpsD _ _ _ (_ :: _) _ _)
   simp(maxSteps:=9^9)only[↓VX,VQ,seval,hT]
   (refine adraw (by first | exact envOk _ | exact envCOk _ _ _) mixed [⟨false,false,0⟩,⟨false,false,0⟩,⟨false,false,0⟩,⟨false,false,0⟩,⟨false,false,0⟩,⟨false,false,0⟩,⟨false,false,0⟩,⟨false,false,0⟩,⟨false,false,0⟩,⟨false,false,0⟩,⟨false,false,0⟩,⟨false,false,0⟩,⟨false,false,0⟩,⟨false,false,0⟩,⟨false,false,0⟩,⟨false,false,0⟩,⟨false,false,0⟩,⟨false,false,0⟩,⟨false,false,0⟩,⟨false,false,0⟩] (by kernel_rfl) ?_; show vcOpsD _ _ _ (_ :: _) _ _)
   simp(maxSteps:=9^9)only[↓VX,VQ,seval]
   repeat'(first|intro _|apply And.intro)
   all_goals try first|omega|(simp only[LL];omega)|exact nlC (by decide) _|exact nbC rfl
   all_goals
    rw [e0]
    clear e0 e1 e2 heq i0 i1 i2 hne
    congr 1
    simp_all <;> omega
 ·by_cases h : a2 = b2
  ·have hT : (a2 = b2) = True := eq_true h
   simp(maxSteps:=9^9)only[↓VX,VQ,seval,c2]
   (refine adraw (by first | exact envOk _ | exact envCOk _ _ _) mixed [⟨false,false,0⟩,⟨false,false,0⟩,⟨false,false,0⟩,⟨false,false,0⟩,⟨false,false,0⟩,⟨false,false,0⟩,⟨false,false,0⟩] (by kernel_rfl) ?_; show vcOpsD _ _ _ (_ :: _) _ _)
   simp(maxSteps:=9^9)only[↓VX,VQ,seval,hT,c2]
   refine ⟨3,(by refine ⟨by omega,?_,?_,?_⟩ <;> intro _ <;> first | trivial | assumption | (exfalso; omega) | exact i0 (by omega) | exact i1 (by omega)),by dsimp only; omega,?_⟩
   (simp only [FE,↓FP,seval])
   try simp
  ·have hT : (a2 = b2) = False := eq_false h
   rw [if_pos (i0 (by omega)),if_pos (i1 (by omega)),if_neg h,e1] at e0
   simp(maxSteps:=9^9)only[↓VX,VQ,seval,c2]
   (refine adraw (by first | exact envOk _ | exact envCOk _ _ _) mixed [⟨false,false,0⟩,⟨false,false,0⟩,⟨false,false,0⟩,⟨false,false,0⟩,⟨false,false,0⟩,⟨false,false,0⟩,⟨false,false,0⟩] (by kernel_rfl) ?_; show vcOpsD _ _ _ (_ :: _) _ _)
   simp(maxSteps:=9^9)only[↓VX,VQ,seval,hT,c2]
   (refine adraw (by first | exact envOk _ | exact envCOk _ _ _) mixed [⟨false,false,0⟩,⟨false,false,0⟩,⟨false,false,0⟩,⟨false,false,0⟩,⟨false,false,0⟩,⟨false,false,0⟩,⟨false,false,0⟩,⟨false,false,0⟩,⟨false,false,0⟩,⟨false,false,0⟩,⟨false,false,0⟩,⟨false,false,0⟩,⟨false,false,0⟩,⟨false,false,0⟩,⟨false,false,0⟩,⟨false,false,0⟩,⟨false,false,0⟩,⟨false,false,0⟩,⟨false,false,0⟩,⟨false,false,0⟩] (by kernel_rfl) ?_; show vcOpsD _ _ _ (_ :: _) _ _)
   simp(maxSteps:=9^9)only[↓VX,VQ,seval,c2]
   repeat'(first|intro _|apply And.intro)
   all_goals try first|omega|(simp only[LL];omega)|exact nlC (by decide) _|exact nbC rfl
   all_goals
    rw [e0]
    clear e0 e1 e2 heq i0 i1 i2 hne
    congr 1
    simp_all <;> omega
 ·exact absurd ⟨i0 (by omega),i1 (by omega),i2 (by omega)⟩ hne
theorem befO_L (w v : List Int) (hw : w.length ≤ 3) (hl : w.length = v.length) (h1 : ∀ x ∈ w,-1 ≤ x) (h2 : ∀ x ∈ v,-1 ≤ x) : befO ((w[0]?).getD (-1) + 1) ((w[1]?).getD (-1) + 1) ((w[2]?).getD (-1) + 1) ((v[0]?).getD (-1) + 1) ((v[1]?).getD (-1) + 1) ((v[2]?).getD (-1) + 1) = befL w v := by
 have hc : ∀ x y : Int,-1 ≤ x → -1 ≤ y → befC (x + 1) (y + 1) = (decide (y = -1) || (decide (x ≠ -1) && decide (x < y))) := fun x y hx hy => by
  unfold befC
  rw [Bool.eq_iff_iff]
  simp only [Bool.or_eq_true,Bool.and_eq_true,decide_eq_true_eq]
  omega
 have he : ∀ x y : Int,(x + 1 = y + 1) = (x = y) := fun x y => by rw [eq_iff_iff]; omega
 match w,v,hw,hl with
 | [],[],_,_ => rfl
 | [x],[y],_,_ =>
  have a1 := h1 x (by simp); have b1 := h2 y (by simp)
  simp only [befO,befL,List.getElem?_cons_zero,List.getElem?_cons_succ,List.getElem?_nil,Option.getD_some,Option.getD_none,he,hc x y a1 b1,if_true]
 | [x,x2],[y,y2],_,_ =>
  have a1 := h1 x (by simp); have b1 := h2 y (by simp)
  have a2 := h1 x2 (by simp); have b2 := h2 y2 (by simp)
  simp only [befO,befL,List.getElem?_cons_zero,List.getElem?_cons_succ,List.getElem?_nil,Option.getD_some,Option.getD_none,he,hc x y a1 b1,hc x2 y2 a2 b2,if_true]
 | [x,x2,x3],[y,y2,y3],_,_ =>
  have a1 := h1 x (by simp); have b1 := h2 y (by simp)
  have a2 := h1 x2 (by simp); have b2 := h2 y2 (by simp)
  have a3 := h1 x3 (by simp); have b3 := h2 y3 (by simp)
  simp only [befO,befL,List.getElem?_cons_zero,List.getElem?_cons_succ,List.getElem?_nil,Option.getD_some,Option.getD_none,he,hc x y a1 b1,hc x2 y2 a2 b2,hc x3 y3 a3 b3,if_true]
theorem before_c (w v : List Int) (hw : w.length ≤ 3) (hl : w.length = v.length) (h1 : ∀ x ∈ w,-1 ≤ x) (h2 : ∀ x ∈ v,-1 ≤ x) : PCall Try.prog 20 [ownA w,ownA v] (.bool (befL w v)) := by
 rw [← befO_L w v hw hl h1 h2]
 exact befO_c _ _ _ _ _ _
end Go.Proofs.Ytikodjpbknneoaa.Abs
