/- Lemmas for the statements of this seat (W9): they hold without conditions beyond those that each one states. -/
import Derived.Test.YtikodjpbknneoaaW8
import Derived.Test.YtikodjpbknneoaaW7
import Derived.Test.YtikodjpbknneoaaW5
/- Data: books of answers; what their reference computes. -/
namespace Go.Proofs.Ytikodjpbknneoaa.Abs
set_option linter.unusedSimpArgs false
open Go Go.RowKit Go.Proofs
structure RAns where
 port : Int
 words : Int
 day : Int
deriving Inhabited
structure RBook where
 harb : RHarb
 words : List Int
 back : Int
 answers : List RAns
def ansA (x : RAns) : AV := .agg [.int .i64 x.port,.int .i64 x.words,.int .i64 x.day]
def bookL (b : RBook) : List AV := harbL b.harb ++ [ints b.words,.int .i64 b.back,.slice 3 (b.answers.map ansA)]
def bookA (b : RBook) : AV := .agg (bookL b)
theorem ixAns (l : List RAns) (i : Int) (K : AV → Prop) : VIdx (l.map ansA) i K ↔ (0 ≤ i ∧ i.toNat < l.length) ∧ K (.agg [.int .i64 (l[i.toNat]!).port,.int .i64 (l[i.toNat]!).words,.int .i64 (l[i.toNat]!).day]) := VIdx_map ansA l i K
def ansErr (ports : Int) (x : RAns) : Int := if offP 0 (ports - 1) x.port = true then 4 else if (offP 1 31 x.words || offP 0 60 x.day) = true then 7 else 0
def wordsE (b : RBook) : Int × Int := failFrom (fun _ n => if offP 1 31 n = true then 7 else 0) 0 b.words
def answersE (b : RBook) : Int × Int := failFrom (fun _ => ansErr b.harb.ports) 0 b.answers
def checkB (b : RBook) : Int × Int × Int :=
 if (checkH b.harb).2.2 ≠ 0 then (1,0,(checkH b.harb).2.2)
 else if b.words.length ≠ b.harb.letters.length then (2,0,3)
 else if (wordsE b).2 ≠ 0 then (2,(wordsE b).1,(wordsE b).2)
 else if offP 1 20 b.back = true then (3,0,7)
 else if 3 < b.answers.length then (4,0,3)
 else if (answersE b).2 ≠ 0 then (4,(answersE b).1,(answersE b).2)
 else if truthsR b.harb [] = [] then (5,0,8)
 else (0,0,0)
def fitsB (b : RBook) (a k : Nat) : Bool := decide ((b.answers[a]!).port = (b.harb.letters[k]!).port) && (List.range 5).all fun w => !bitI (b.answers[a]!).words w || bitI (b.words[k]!) w
def soonB (l : List Int) (u : Int) : Bool := l.any fun d => untilB d u
def canR (b : RBook) (t : RTru) (a k : Nat) : Bool := fitsB b a k && soonB (rowE b.harb k t) ((b.answers[a]!).day - b.back)
def extW (b : RBook) (t : RTru) (a : Nat) (o : List Int) : List (List Int) :=
 (((List.range b.harb.letters.length).filter fun (k : Nat) => !decide ((k : Int) ∈ o) && canR b t a k).map fun (k : Nat) => o ++ [(k : Int)]) ++ [o ++ [-1]]
def waysTo (b : RBook) (t : RTru) : Nat → List (List Int)
 | 0 => [[]]
 | n + 1 => (waysTo b t n).flatMap (extW b t n)
def waysR (b : RBook) (t : RTru) : List (List Int) := waysTo b t b.answers.length
def manyL (l : List Int) : Int := ((l.filter fun x => decide (x = -1)).length : Nat)
def leastR (b : RBook) : Int := (truthsR b.harb []).foldl (fun m t => (waysR b t).foldl (fun m w => min m (manyL w)) m) (b.answers.length : Int)
def fairR (b : RBook) : List (RTru × List Int) := (truthsR b.harb []).flatMap fun t => ((waysR b t).filter fun w => decide (manyL w = leastR b)).map fun w => (t,w)
set_option maxHeartbeats 4000000
set_option maxRecDepth 100000
structure BOk (b : RBook) : Prop where
 h : HOk b.harb
 w : b.words.length = b.harb.letters.length
 word : ∀ i,i < b.words.length → 1 ≤ b.words[i]! ∧ b.words[i]! ≤ 31
 back : 1 ≤ b.back ∧ b.back ≤ 20
 n : b.answers.length ≤ 3
 ans : ∀ i,i < b.answers.length → (0 ≤ (b.answers[i]!).port ∧ (b.answers[i]!).port ≤ b.harb.ports - 1) ∧ (1 ≤ (b.answers[i]!).words ∧ (b.answers[i]!).words ≤ 31) ∧ (0 ≤ (b.answers[i]!).day ∧ (b.answers[i]!).day ≤ 60)
 t : truthsR b.harb [] ≠ []
theorem rowE_length (h : RHarb) (k : Nat) (t : RTru) : (rowE h k t).length = (t.by_[k]!).length := by unfold rowE; rw [List.length_map]
def indexB (b : RBook) (n below : Int) : Int := if (checkB b).2.2 = 0 then (if offP 0 (below - 1) n = true then 4 else 0) else (checkB b).2.2
def manyTo (l : List Int) (n : Nat) : Int := (((l.take n).filter fun x => decide (x = -1)).length : Nat)
theorem manyTo_succ {l : List Int} {n : Nat} (h : n < l.length) : manyTo l (n + 1) = if l[n]! = -1 then manyTo l n + 1 else manyTo l n := by
 unfold manyTo
 rw [List.take_succ_eq_append_getElem h,List.filter_append,getD_any h]
 by_cases q : l[n] = -1 <;> simp [q]
theorem manyTo_le (l : List Int) (n : Nat) : 0 ≤ manyTo l n ∧ manyTo l n ≤ l.length := by
 unfold manyTo
 have h1 := List.length_filter_le (fun x => decide (x = -1)) (l.take n)
 have h2 := List.length_take_le n l
 have h3 : (l.take n).length ≤ l.length := by rw [List.length_take]; omega
 omega
def extTo (b : RBook) (t : RTru) (a : Nat) (o : List Int) (n : Nat) : List (List Int) := ((List.range n).filter fun (k : Nat) => !decide ((k : Int) ∈ o) && canR b t a k).map fun (k : Nat) => o ++ [(k : Int)]
theorem extTo_length (b : RBook) (t : RTru) (a : Nat) (o : List Int) (n : Nat) : (extTo b t a o n).length ≤ n := by
 unfold extTo; rw [List.length_map]; exact Nat.le_trans (List.length_filter_le _ _) (by simp)
theorem extW_to (b : RBook) (t : RTru) (a : Nat) (o : List Int) : extW b t a o = extTo b t a o b.harb.letters.length ++ [o ++ [-1]] := rfl
theorem extW_length (b : RBook) (t : RTru) (a : Nat) (o : List Int) : (extW b t a o).length ≤ b.harb.letters.length + 1 := by
 rw [extW_to,List.length_append]; have := extTo_length b t a o b.harb.letters.length; simp; omega
theorem extW_mem {b : RBook} {t : RTru} {a : Nat} {o x : List Int} (h : x ∈ extW b t a o) : x.length = o.length + 1 := by
 unfold extW at h
 rw [List.mem_append,List.mem_map,List.mem_singleton] at h
 rcases h with ⟨k,_,rfl⟩ | rfl <;> simp
theorem waysTo_mem {b : RBook} {t : RTru} : ∀ {n : Nat} {x : List Int},x ∈ waysTo b t n → x.length = n
 | 0,x,h => by simp [waysTo] at h; simp [h]
 | n + 1,x,h => by
  unfold waysTo at h
  obtain ⟨o,ho,hx⟩ := List.mem_flatMap.1 h
  rw [extW_mem hx,waysTo_mem ho]
theorem flat_len5 {α β : Type} {f : α → List β} {c : Nat} : ∀ {l : List α},(∀ x ∈ l,(f x).length ≤ c) → (l.flatMap f).length ≤ l.length * c
 | [],_ => by simp
 | x :: l,h => by
  rw [List.flatMap_cons,List.length_append,List.length_cons,Nat.add_mul,Nat.one_mul]
  have := h x (by simp)
  have := flat_len5 (l := l) fun y hy => h y (List.mem_cons_of_mem _ hy)
  omega
theorem waysTo_length {b : RBook} (hnl : b.harb.letters.length ≤ 4) (t : RTru) : ∀ n,(waysTo b t n).length ≤ 5 ^ n
 | 0 => by simp [waysTo]
 | n + 1 => by
  have := waysTo_length hnl t n
  have h1 : (waysTo b t (n + 1)).length ≤ (waysTo b t n).length * 5 := flat_len5 fun x _ => by have := extW_length b t n x; omega
  rw [Nat.pow_succ]; omega
def minS (m : Int) (w : List Int) : Int := min m (manyL w)
def minIn (m : Int) (l : List (List Int)) (k : Nat) : Int := (l.take k).foldl minS m
def leastTo (b : RBook) (n : Nat) : Int := ((truthsR b.harb []).take n).foldl (fun m t => (waysR b t).foldl minS m) (b.answers.length : Int)
theorem minIn_succ {m : Int} {l : List (List Int)} {k : Nat} (h : k < l.length) : minIn m l (k + 1) = min (minIn m l k) (manyL (l[k]!)) := by
 unfold minIn
 rw [List.take_succ_eq_append_getElem h,List.foldl_append,getD_any h]; rfl
theorem leastTo_succ {b : RBook} {n : Nat} (h : n < (truthsR b.harb []).length) : leastTo b (n + 1) = minIn (leastTo b n) (waysR b ((truthsR b.harb [])[n]!)) (waysR b ((truthsR b.harb [])[n]!)).length := by
 unfold leastTo minIn
 rw [List.take_succ_eq_append_getElem h,List.foldl_append,getD_any h,List.take_length]; rfl
theorem leastTo_all (b : RBook) : leastTo b (truthsR b.harb []).length = leastR b := by
 unfold leastTo leastR; rw [List.take_length]; rfl
theorem waysR_length {b : RBook} (hb : BOk b) (t : RTru) : (waysR b t).length ≤ 125 := by
 have h1 := waysTo_length hb.h.nl t b.answers.length
 have h2 : (5 : Nat) ^ b.answers.length ≤ 5 ^ 3 := Nat.pow_le_pow_right (by decide) hb.n
 have : waysR b t = waysTo b t b.answers.length := rfl
 rw [this]; omega
theorem waysR_at {b : RBook} {t : RTru} {i : Nat} (h : i < (waysR b t).length) : ((waysR b t)[i]!).length = b.answers.length :=
 waysTo_mem (b := b) (t := t) (n := b.answers.length) (by rw [getD_any h]; exact List.getElem_mem h)
def fairOf (b : RBook) (L : Int) (t : RTru) (n : Nat) : List (RTru × List Int) := (((waysR b t).take n).filter fun w => decide (manyL w = L)).map fun w => (t,w)
def fairTo (b : RBook) (n : Nat) : List (RTru × List Int) := ((truthsR b.harb []).take n).flatMap fun t => fairOf b (leastR b) t (waysR b t).length
theorem fairOf_succ {b : RBook} {L : Int} {t : RTru} {n : Nat} (h : n < (waysR b t).length) : fairOf b L t (n + 1) = if manyL ((waysR b t)[n]!) = L then fairOf b L t n ++ [(t,(waysR b t)[n]!)] else fairOf b L t n := by
 unfold fairOf
 rw [List.take_succ_eq_append_getElem h,List.filter_append,List.map_append,getD_any h,List.filter_cons]
 by_cases q : manyL (waysR b t)[n] = L
 ·rw [if_pos (decide_eq_true q),if_pos q]; rfl
 ·rw [if_neg (by rw [decide_eq_true_eq]; exact q),if_neg q]; exact List.append_nil _
theorem fairTo_succ {b : RBook} {n : Nat} (h : n < (truthsR b.harb []).length) : fairTo b (n + 1) = fairTo b n ++ fairOf b (leastR b) ((truthsR b.harb [])[n]!) (waysR b ((truthsR b.harb [])[n]!)).length := by
 unfold fairTo
 rw [List.take_succ_eq_append_getElem h,List.flatMap_append,getD_any h]
 simp
theorem fairTo_all (b : RBook) : fairTo b (truthsR b.harb []).length = fairR b := by
 unfold fairTo fairR fairOf
 simp only [List.take_length]
theorem fairOf_length (b : RBook) (L : Int) (t : RTru) (n : Nat) : (fairOf b L t n).length ≤ n := by
 unfold fairOf
 rw [List.length_map]
 exact Nat.le_trans (List.length_filter_le _ _) (List.length_take_le _ _)
theorem fairTo_length {b : RBook} (hb : BOk b) (n : Nat) : (fairTo b n).length ≤ n * 125 := by
 unfold fairTo
 have h1 := flat_len5 (f := fun t => fairOf b (leastR b) t (waysR b t).length) (c := 125) (l := (truthsR b.harb []).take n) fun x _ => Nat.le_trans (fairOf_length b _ x _) (waysR_length hb x)
 have h2 := Nat.mul_le_mul_right 125 (List.length_take_le n (truthsR b.harb []))
 omega
def wordErr (n : Int) : Int := if offP 1 31 n = true then 7 else 0
theorem ansErr_is (ports : Int) (x : RAns) : ansErr ports x = if offP 0 (ports - 1) x.port = true then 4 else if (offP 1 31 x.words || offP 0 60 x.day) = true then 7 else 0 := rfl
theorem answersE_zero {b : RBook} : (answersE b).2 = 0 ↔ ∀ x ∈ b.answers,ansErr b.harb.ports x = 0 := by
 unfold answersE
 rw [failFrom_zero]
 constructor
 ·intro q x hx
  obtain ⟨i,hi,rfl⟩ := List.mem_iff_getElem.1 hx
  exact q i hi
 ·intro q i hi
  exact q _ (List.getElem_mem hi)
theorem wordsE_zero {b : RBook} : (wordsE b).2 = 0 ↔ ∀ x ∈ b.words,wordErr x = 0 := by
 unfold wordsE
 rw [failFrom_zero]
 constructor
 ·intro q x hx
  obtain ⟨i,hi,rfl⟩ := List.mem_iff_getElem.1 hx
  exact q i hi
 ·intro q i hi
  exact q _ (List.getElem_mem hi)
theorem bok_check {b : RBook} (e : (checkB b).2.2 = 0) : BOk b := by
 unfold checkB at e
 split at e
 ·rename_i q; exact absurd e q
 rename_i q1
 split at e
 ·cases e
 rename_i q2
 split at e
 ·rename_i q; exact absurd e q
 rename_i q3
 split at e
 ·cases e
 rename_i q4
 split at e
 ·cases e
 rename_i q5
 split at e
 ·rename_i q; exact absurd e q
 rename_i q6
 split at e
 ·cases e
 rename_i q7
 have hw := wordsE_zero.1 (by omega : (wordsE b).2 = 0)
 have ha := answersE_zero.1 (by omega : (answersE b).2 = 0)
 rw [Bool.not_eq_true,offP_false] at q4
 refine ⟨hok_check (by omega),by omega,fun i hi => ?_,q4,by omega,fun i hi => ?_,q7⟩
 ·have := hw (b.words[i]!) (by rw [getD_any hi]; exact List.getElem_mem hi)
  unfold wordErr at this
  split at this
  ·cases this
  ·rename_i q; rw [Bool.not_eq_true,offP_false] at q; exact q
 ·have := ha (b.answers[i]!) (by rw [getD_any hi]; exact List.getElem_mem hi)
  unfold ansErr at this
  split at this
  ·cases this
  ·rename_i p1
   split at this
   ·cases this
   ·rename_i p2
    rw [Bool.not_eq_true,offP_false] at p1
    rw [Bool.not_eq_true,Bool.or_eq_false_iff,offP_false,offP_false] at p2
    exact ⟨p1,p2.1,p2.2⟩
def metC (b : RBook) (T : List RTru) (a k n : Nat) : Bool := (List.range n).any fun i => canR b (T[i]!) a k
def couldC (b : RBook) (T : List RTru) (a n : Nat) : List Int := ((List.range n).filter fun k => metC b T a k T.length).map fun (k : Nat) => (k : Int)
def couldR (b : RBook) (answer : Int) : List Int × Int := if indexB b answer b.answers.length = 0 then (couldC b (truthsR b.harb []) answer.toNat b.harb.letters.length,0) else ([],indexB b answer b.answers.length)
def befL : List Int → List Int → Bool
 | x :: xs,y :: ys => if x = y then befL xs ys else decide (y = -1) || (decide (x ≠ -1) && decide (x < y))
 | _,_ => false
theorem minS_mem : ∀ (l : List (List Int)) (m : Int),l.foldl minS m = m ∨ ∃ w ∈ l,l.foldl minS m = manyL w
 | [],m => .inl rfl
 | w :: l,m => by
  rw [List.foldl_cons]
  rcases minS_mem l (minS m w) with h | ⟨x,hx,h⟩
  ·rw [h]
   unfold minS
   rcases Int.le_total m (manyL w) with q | q
   ·left; omega
   ·right; exact ⟨w,by simp,by omega⟩
  ·exact .inr ⟨x,List.mem_cons_of_mem _ hx,h⟩
theorem leastT_mem (b : RBook) : ∀ (T : List RTru) (m : Int),T.foldl (fun m t => (waysR b t).foldl minS m) m = m ∨ ∃ t ∈ T,∃ w ∈ waysR b t,T.foldl (fun m t => (waysR b t).foldl minS m) m = manyL w
 | [],m => .inl rfl
 | t :: T,m => by
  rw [List.foldl_cons]
  rcases leastT_mem b T ((waysR b t).foldl minS m) with h | ⟨x,hx,w,hw,h⟩
  ·rw [h]
   rcases minS_mem (waysR b t) m with q | ⟨w,hw,q⟩
   ·exact .inl q
   ·exact .inr ⟨t,by simp,w,hw,q⟩
  ·exact .inr ⟨x,List.mem_cons_of_mem _ hx,w,hw,h⟩
theorem stray_way (b : RBook) (t : RTru) : ∀ n,List.replicate n (-1 : Int) ∈ waysTo b t n
 | 0 => by simp [waysTo]
 | n + 1 => by
  unfold waysTo
  refine List.mem_flatMap.2 ⟨_,stray_way b t n,?_⟩
  unfold extW
  rw [List.mem_append]
  right
  rw [List.mem_singleton,List.replicate_succ']
theorem stray_many (n : Nat) : manyL (List.replicate n (-1 : Int)) = n := by
 unfold manyL
 rw [List.filter_eq_self.2 (fun x hx => by rw [(List.mem_replicate.1 hx).2]; rfl),List.length_replicate]
theorem fair_mem {b : RBook} {x : RTru × List Int} : x ∈ fairR b ↔ x.1 ∈ truthsR b.harb [] ∧ x.2 ∈ waysR b x.1 ∧ manyL x.2 = leastR b := by
 unfold fairR
 simp only [List.mem_flatMap,List.mem_map,List.mem_filter,decide_eq_true_eq]
 constructor
 ·rintro ⟨t,ht,w,⟨h1,h2⟩,rfl⟩; exact ⟨ht,h1,h2⟩
 ·rintro ⟨h1,h2,h3⟩; exact ⟨x.1,h1,x.2,⟨h2,h3⟩,rfl⟩
theorem fair_pos {b : RBook} (hb : BOk b) : 0 < (fairR b).length := by
 have hl : leastR b = (truthsR b.harb []).foldl (fun m t => (waysR b t).foldl minS m) (b.answers.length : Int) := rfl
 obtain ⟨t,ht⟩ := List.exists_mem_of_ne_nil _ hb.t
 rcases leastT_mem b (truthsR b.harb []) (b.answers.length : Int) with h | ⟨x,hx,w,hw,h⟩
 ·exact List.length_pos_of_mem (fair_mem.2 ⟨ht,stray_way b t _,by rw [hl,h]; exact stray_many _⟩ : (t,List.replicate b.answers.length (-1 : Int)) ∈ fairR b)
 ·exact List.length_pos_of_mem (fair_mem.2 ⟨hx,hw,by rw [hl,h]⟩ : (x,w) ∈ fairR b)
theorem fairR_length {b : RBook} (hb : BOk b) : (fairR b).length ≤ 512000 := by
 rw [← fairTo_all]
 have h1 := fairTo_length hb (truthsR b.harb []).length
 have h2 := truths_len hb.h []
 omega
def bestF (F : List (RTru × List Int)) : Nat → List Int
 | 0 => (F[0]!).2
 | n + 1 => if befL (F[n + 1]!).2 (bestF F n) = true then (F[n + 1]!).2 else bestF F n
def firstR (b : RBook) : List Int × Int × Int := if (checkB b).2.2 = 0 then (bestF (fairR b) ((fairR b).length - 1),manyL (bestF (fairR b) ((fairR b).length - 1)),0) else ([],0,(checkB b).2.2)
def oftB (F : List (RTru × List Int)) (a : Nat) (k : Int) (n : Nat) : Nat := ((List.range n).filter fun i => decide (((F[i]!).2)[a]! = k)).length
def indexB2 (b : RBook) (answer letter : Int) : Int := if indexB b answer b.answers.length = 0 then indexB b letter b.harb.letters.length else indexB b answer b.answers.length
def belongsR (b : RBook) (answer letter : Int) : Int × Int := if indexB2 b answer letter = 0 then (settledR (oftB (fairR b) answer.toNat letter (fairR b).length) (fairR b).length,0) else (0,indexB2 b answer letter)
end Go.Proofs.Ytikodjpbknneoaa.Abs
