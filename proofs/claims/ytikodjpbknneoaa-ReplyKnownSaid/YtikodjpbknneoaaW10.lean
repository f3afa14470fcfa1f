/- Lemmas for the statements of this seat (W10): they hold without conditions beyond those that each one states. -/
import Derived.Test.YtikodjpbknneoaaW9
import Derived.Test.YtikodjpbknneoaaW2
/- Contracts: the reference of answers: sorted. -/
namespace Go.Proofs.Ytikodjpbknneoaa.Abs
set_option linter.unusedSimpArgs false
open Go Go.RowKit Go.Proofs
def idxF (p : Nat → Bool) (n : Nat) : List Int := ((List.range n).filter p).map fun (k : Nat) => (k : Int)
theorem idxF_succ (p : Nat → Bool) (n : Nat) : idxF p (n + 1) = if p n = true then idxF p n ++ [(n : Int)] else idxF p n := by
 unfold idxF
 rw [List.range_succ,List.filter_append,List.map_append,List.filter_cons]
 by_cases q : p n = true
 ·rw [if_pos q,if_pos q]; rfl
 ·rw [if_neg q,if_neg q]; exact List.append_nil _
theorem idxF_length (p : Nat → Bool) (n : Nat) : (idxF p n).length ≤ n := by
 unfold idxF; rw [List.length_map]; exact Nat.le_trans (List.length_filter_le _ _) (by simp)
def allI (l : List Int) (all : Int) (n : Nat) : List Int := idxF (fun i => decide (l[i]! = all)) n
def anyI (l : List Int) (n : Nat) : List Int := idxF (fun i => decide (0 < l[i]!)) n
set_option maxHeartbeats 4000000
set_option maxRecDepth 100000
def cntL (f : Nat → Nat → Nat) (n i a : Nat) : List Int := (List.range n).map fun k => ((f k (if k < a then i + 1 else i) : Nat) : Int)
theorem overlay_set (l : List Int) (a : Nat) (x : Int) (h : a < l.length) : overlay (l.map (AV.int .i64)) a [.int .i64 x] = (l.set a x).map (AV.int .i64) := by
 unfold overlay
 rw [List.map_set,List.set_eq_take_append_cons_drop,if_pos (by simpa using h)]
 simp
theorem flat_ints (l : List Int) : ((l.map (AV.int .i64)).map AV.cells).flatten = l.map (AV.int .i64) := by
 induction l with
 | nil => rfl
 | cons x l ih => simp only [List.map_cons,List.flatten_cons,ih]; rfl
theorem updTwice (m : Mem) (b : Nat) (x y : Option Box) : upd (upd m b x) b y = upd m b y := by
 funext k
 unfold upd
 by_cases q : k = b
 ·rw [if_pos q,if_pos q]
 ·rw [if_neg q,if_neg q,if_neg q]
def straysR (b : RBook) : List Int × List Int × Int := if (checkB b).2.2 = 0 then
  (allI (cntL (fun a n => oftB (fairR b) a (-1) n) b.answers.length (fairR b).length 0) (fairR b).length b.answers.length,
   anyI (cntL (fun a n => oftB (fairR b) a (-1) n) b.answers.length (fairR b).length 0) b.answers.length,0) else ([],[],(checkB b).2.2)
def oftW (F : List (RTru × List Int)) (k : Nat) (n : Nat) : Nat := ((List.range n).filter fun i => !decide ((k : Int) ∈ (F[i]!).2)).length
def waitsR (b : RBook) : List Int × List Int × Int := if (checkB b).2.2 = 0 then
  (anyI (cntL (fun a n => oftW (fairR b) a n) b.harb.letters.length (fairR b).length 0) b.harb.letters.length,
   allI (cntL (fun a n => oftW (fairR b) a n) b.harb.letters.length (fairR b).length 0) (fairR b).length b.harb.letters.length,0) else ([],[],(checkB b).2.2)
def sureF (a : Nat) (z : Int) (x : RTru × List Int) : Bool := decide (x.2[a]! ≠ -1) && decide (x.2[a]! = z)
def sureR (b : RBook) (a : Nat) : Bool := (fairR b).all (sureF a (((fairR b)[0]!).2[a]!))
def moreA (x : RAns) (w : Nat) : RAns := if bitI x.words w = true then x else { x with words := x.words + 2 ^ w }
def namedR (b : RBook) (a w : Nat) : RBook := { b with answers := b.answers.set a (moreA (b.answers[a]!) w) }
def ansC (l : List RAns) : List AV := ((l.map ansA).map AV.cells).flatten
theorem ansC_cons (x : RAns) (l : List RAns) : ansC (x :: l) = .int .i64 x.port :: .int .i64 x.words :: .int .i64 x.day :: ansC l := rfl
theorem ansC_at : ∀ (l : List RAns) (tail : List AV) (a : Nat),a < l.length → ∃ r,(ansC l ++ tail).drop (a * 3) = .int .i64 (l[a]!).port :: .int .i64 (l[a]!).words :: .int .i64 (l[a]!).day :: r
 | [],_,_,h => by cases h
 | x :: l,tail,0,_ => ⟨ansC l ++ tail,rfl⟩
 | x :: l,tail,a + 1,h => by
  obtain ⟨r,e⟩ := ansC_at l tail a (by simpa using h)
  refine ⟨r,?_⟩
  rw [show (a + 1) * 3 = a * 3 + 1 + 1 + 1 by omega]
  rw [show (x :: l)[a + 1]! = l[a]! from rfl]
  exact e
theorem bits31 : ∀ (x : Nat),x < 32 → ∀ w : Nat,w < 5 → bitI (x : Int) (w : Int) = false → (x : Int) + 2 ^ w ≤ 31 := by decide +kernel
theorem moreA_words {x : RAns} {w : Nat} (h1 : 1 ≤ x.words) (h2 : x.words ≤ 31) (hw : w < 5) : 1 ≤ (moreA x w).words ∧ (moreA x w).words ≤ 31 := by
 unfold moreA
 by_cases q : bitI x.words w = true
 ·rw [if_pos q]; exact ⟨h1,h2⟩
 ·rw [if_neg q]
  have := bits31 x.words.toNat (by omega) w hw (by rw [Int.toNat_of_nonneg (by omega)]; simpa using q)
  rw [Int.toNat_of_nonneg (by omega)] at this
  have h3 : (0 : Int) < 2 ^ w := Int.pow_pos (by decide)
  exact ⟨by show 1 ≤ x.words + 2 ^ w; omega,this⟩
theorem named_bok {b : RBook} (hb : BOk b) {a w : Nat} (ha : a < b.answers.length) (hw : w < 5) : BOk (namedR b a w) where
 h := hb.h
 w := hb.w
 word := hb.word
 back := hb.back
 n := by show (b.answers.set a _).length ≤ 3; rw [List.length_set]; exact hb.n
 t := hb.t
 ans := by
  intro i hi
  have hi' : i < b.answers.length := by
   have : (namedR b a w).answers.length = b.answers.length := List.length_set ..
   omega
  have e : (namedR b a w).answers[i]! = if a = i then moreA (b.answers[a]!) w else b.answers[i]! := by
   show (b.answers.set a _)[i]! = _
   rw [getD_any (by rw [List.length_set]; exact hi'),List.getElem_set,getD_any hi']
  rw [e]
  by_cases q : a = i
  ·rw [if_pos q]
   have h1 := hb.ans a ha
   have h2 := moreA_words h1.2.1.1 h1.2.1.2 hw
   have hp : (moreA (b.answers[a]!) w).port = (b.answers[a]!).port ∧ (moreA (b.answers[a]!) w).day = (b.answers[a]!).day := by unfold moreA; split <;> exact ⟨rfl,rfl⟩
   rw [hp.1,hp.2]
   exact ⟨h1.1,h2,h1.2.2⟩
  ·rw [if_neg q]; exact hb.ans i hi'
def decF (b : RBook) (a : Nat) (w : Nat) : Bool := !bitI (b.answers[a]!).words w && sureR (namedR b a w) a
def decidesR (b : RBook) (answer : Int) : List Int × Int := if indexB b answer b.answers.length = 0 then (idxF (decF b answer.toNat) 5,0) else ([],indexB b answer b.answers.length)
def fineTo (b : RBook) (w : List Int) (k : Nat) (d : Int) : Nat → Bool
 | 0 => true
 | a + 1 => if w[a]! = (k : Int) then untilB d ((b.answers[a]!).day - b.back) else fineTo b w k d a
def fineB (b : RBook) (w : List Int) (k : Nat) (d : Int) : Bool := fineTo b w k d b.answers.length
structure RCam where
 lo : Int
 hi : Int
 yes : Int
 all : Int
def camStep (s : RCam) (d : Int) : RCam := if d < 0 then { s with all := s.all + 1 } else if s.yes = 0 then ⟨d,d,1,s.all + 1⟩ else ⟨min s.lo d,max s.hi d,s.yes + 1,s.all + 1⟩
def camIn (b : RBook) (w : List Int) (k : Nat) (s : RCam) (l : List Int) (n : Nat) : RCam := (l.take n).foldl (fun s d => if fineB b w k d = true then camStep s d else s) s
def camTo (b : RBook) (F : List (RTru × List Int)) (k : Nat) (n : Nat) : RCam := (F.take n).foldl (fun s x => camIn b x.2 k s (rowE b.harb k x.1) (rowE b.harb k x.1).length) ⟨0,0,0,0⟩
theorem camIn_succ {b : RBook} {w : List Int} {k : Nat} {s : RCam} {l : List Int} {n : Nat} (h : n < l.length) : camIn b w k s l (n + 1) = if fineB b w k (l[n]!) = true then camStep (camIn b w k s l n) (l[n]!) else camIn b w k s l n := by
 unfold camIn
 rw [List.take_succ_eq_append_getElem h,List.foldl_append,getD_any h]; rfl
theorem camStep_le {s : RCam} {d : Int} {n : Int} (h : 0 ≤ s.yes ∧ s.yes ≤ s.all ∧ s.all ≤ n) : 0 ≤ (camStep s d).yes ∧ (camStep s d).yes ≤ (camStep s d).all ∧ (camStep s d).all ≤ n + 1 := by
 unfold camStep
 split
 ·dsimp only; omega
 ·split <;> (dsimp only; omega)
theorem camIn_le {b : RBook} {w : List Int} {k : Nat} {s : RCam} {l : List Int} {c : Int} (h : 0 ≤ s.yes ∧ s.yes ≤ s.all ∧ s.all ≤ c) : ∀ n : Nat,0 ≤ (camIn b w k s l n).yes ∧ (camIn b w k s l n).yes ≤ (camIn b w k s l n).all ∧ (camIn b w k s l n).all ≤ c + n
 | 0 => by simp [camIn]; exact h
 | n + 1 => by
  have ih := camIn_le (b := b) (w := w) (k := k) (l := l) h n
  by_cases q : n < l.length
  ·rw [camIn_succ q]
   split
   ·have := camStep_le (d := l[n]!) ih
    omega
   ·omega
  ·have e : camIn b w k s l (n + 1) = camIn b w k s l n := by
    unfold camIn
    rw [List.take_of_length_le (by omega),List.take_of_length_le (by omega)]
   rw [e]; omega
def cameR (b : RBook) (letter : Int) : RCam × Int × Int :=
 if indexB b letter b.harb.letters.length = 0 then (camTo b (fairR b) letter.toNat (fairR b).length,settledR (camTo b (fairR b) letter.toNat (fairR b).length).yes (camTo b (fairR b) letter.toNat (fairR b).length).all,0) else (⟨0,0,0,0⟩,0,indexB b letter b.harb.letters.length)
end Go.Proofs.Ytikodjpbknneoaa.Abs
