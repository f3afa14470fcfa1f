/- Lemmas for the statements of this seat (W22): they hold without conditions beyond those that each one states. -/
import Derived.Test.YtdmejgfcaacdoaaGreatW20
import Derived.Test.YtdmejgfcaacdoaaGreatW21
/- Laws: a chest of letters,with the words that a form gives. -/
namespace Go.Proofs.YtdmejgfcaacdoaaGreat.Abs
set_option linter.unusedSimpArgs false
open Go Go.RowKit Go.Proofs
def hasW (l : List ByteArray) (w : ByteArray) : Bool := l.any fun y => decide (y = w)
theorem hasW_iff {l : List ByteArray} {w : ByteArray} : hasW l w = true ↔ w ∈ l := by simp [hasW]
def bitsW (words l : List ByteArray) : Nat := setOf (fun k => hasW l words[k]!) words.length
def copyW (words : List ByteArray) (own : List (List ByteArray)) (i : Nat) : VCopy := ⟨i + 1,bitsW words own[i]!,0,1⟩
def chestV (words : List ByteArray) (own : List (List ByteArray)) : VChest := ⟨max 1 words.length,1,[⟨#[97,108,108]⟩],6,(List.range own.length).map (copyW words own),[]⟩
theorem chestV_copy {words : List ByteArray} {own : List (List ByteArray)} {i : Nat} (hi : i < own.length) : (chestV words own).copies[i]! = copyW words own i := by
 rw [getElem!_pos _ i (by simpa [chestV] using hi)]
 simp [chestV]
theorem chestV_ok {words : List ByteArray} {own : List (List ByteArray)} (hw : words.length ≤ 5) (ho : own.length ≤ 6) : VOk (chestV words own) where
 w := by simp only [chestV]; omega
 f := by simp [chestV]
 l := by simp [chestV]
 p := by simp [chestV]
 names := by
  show (failFrom (nameErr [⟨#[97,108,108]⟩]) 0 [⟨#[97,108,108]⟩]).2 = 0
  decide +kernel
 c := by simpa [chestV] using ho
 copy := by
  intro x hx
  obtain ⟨i,hi,rfl⟩ := List.mem_map.1 hx
  rw [List.mem_range] at hi
  refine ⟨by simp [copyW],by simp [copyW,chestV]; omega,?_,by simp [copyW,chestV],by simp [copyW,chestV]⟩
  have h1 := setOf_lt (fun k => hasW own[i]! words[k]!) words.length
  exact Nat.lt_of_lt_of_le h1 (Nat.pow_le_pow_right (by decide) (by simp only [chestV]; omega))
 rise := by
  intro i hi
  have : i + 1 < own.length := by simpa [chestV] using hi
  rw [chestV_copy (by omega),chestV_copy this]
  simp [copyW]
 r := by simp [chestV]
 rule := by intro x hx; simp [chestV] at hx
theorem found_formed {words : List ByteArray} {own : List (List ByteArray)} {k : Nat} : (k : Int) ∈ foundL (chestV words own) 0 (upToL words.length) ↔ k < own.length ∧ ∀ w ∈ words,w ∈ own[k]! := by
 unfold foundL
 rw [List.mem_filter]
 have h1 : (k : Int) ∈ ownL (chestV words own) 0 ↔ k < own.length := by
  simp only [ownL,ownTo,List.mem_map,List.mem_filter,List.mem_range]
  constructor
  ·rintro ⟨i,⟨hi,_⟩,e⟩
   have : i < own.length := by simpa [chestV] using hi
   omega
  ·intro hk
   refine ⟨k,⟨by simpa [chestV] using hk,?_⟩,rfl⟩
   rw [chestV_copy hk]; show Nat.testBit 1 0 = true; decide
 rw [h1]
 refine and_congr_right fun hk => ?_
 rw [Int.toNat_natCast,chestV_copy hk]
 unfold wordedB upToL
 rw [List.all_eq_true]
 constructor
 ·intro h w hw
  obtain ⟨i,hi,rfl⟩ := List.getElem_of_mem hw
  have := h (i : Int) (List.mem_map.2 ⟨i,List.mem_range.2 hi,rfl⟩)
  rw [Int.toNat_natCast] at this
  show _ ∈ own[k]!
  have h2 : (bitsW words own[k]!).testBit i = true := this
  unfold bitsW at h2
  rw [setOf_bit,Bool.and_eq_true,hasW_iff,getElem!_pos words i hi] at h2
  exact h2.2
 ·intro h x hx
  obtain ⟨i,hi,rfl⟩ := List.mem_map.1 hx
  rw [List.mem_range] at hi
  rw [Int.toNat_natCast]
  show (bitsW words own[k]!).testBit i = true
  unfold bitsW
  rw [setOf_bit,Bool.and_eq_true,hasW_iff,getElem!_pos words i hi]
  exact ⟨decide_eq_true hi,h _ (List.getElem_mem hi)⟩
theorem key_formed {words : List ByteArray} {own : List (List ByteArray)} (hw : words.length ≤ 5) (ho : own.length ≤ 6) {k : Nat} (hk : k < own.length) :
  (keyL (chestV words own) 0 ((k : Int) + 1)).2 = 9 ∨ ((keyL (chestV words own) 0 ((k : Int) + 1)).2 = 0 ∧ ∀ j,j < own.length → own[j]! = own[k]! → j = k) := by
 have hk' : k < (chestV words own).copies.length := by simpa [chestV] using hk
 have h := key_law (chestV words own) (chestV_ok hw ho) (p := 0) (k := k) (by simp [chestV]) hk'
 have e : (((chestV words own).copies[k]!).number : Int) = (k : Int) + 1 := by rw [chestV_copy hk]; simp [copyW]
 rw [e] at h
 rcases h with ⟨h,_⟩ | ⟨_,⟨h,_⟩ | ⟨ch,h,_,hf,_⟩⟩
 ·rw [chestV_copy hk] at h
  have : Nat.testBit 1 0 = false := h
  exact absurd this (by decide)
 ·left; rw [h]
 ·right
  rw [h]
  refine ⟨rfl,fun j hj hjk => ?_⟩
  have hf : foundL (chestV words own) 0 ch = [(k : Int)] := of_decide_eq_true hf
  have hkin : (k : Int) ∈ foundL (chestV words own) 0 ch := by rw [hf]; exact List.mem_singleton.2 rfl
  have hjin : (j : Int) ∈ foundL (chestV words own) 0 ch := by
   unfold foundL at hkin ⊢
   rw [List.mem_filter] at hkin ⊢
   refine ⟨?_,?_⟩
   ·simp only [ownL,ownTo,List.mem_map,List.mem_filter,List.mem_range]
    refine ⟨j,⟨by simpa [chestV] using hj,?_⟩,rfl⟩
    rw [chestV_copy hj]; show Nat.testBit 1 0 = true; decide
   ·have h2 := hkin.2
    rw [Int.toNat_natCast,chestV_copy hk] at h2
    rw [Int.toNat_natCast,chestV_copy hj]
    unfold wordedB at h2 ⊢
    simp only [copyW] at h2 ⊢
    rw [hjk]; exact h2
  rw [hf,List.mem_singleton] at hjin
  omega
end Go.Proofs.YtdmejgfcaacdoaaGreat.Abs
