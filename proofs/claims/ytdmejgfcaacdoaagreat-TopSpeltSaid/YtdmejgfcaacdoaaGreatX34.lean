/- Lemmas for the statements of this seat (X34): they hold without conditions beyond those that each one states. -/
import Derived.Test.YtdmejgfcaacdoaaGreatX17
/- Laws: a name that is spelt is a word,and can be heard so; notes of two names. -/
namespace Go.Proofs.YtdmejgfcaacdoaaGreat.Abs
set_option linter.unusedSimpArgs false
open Go Go.RowKit Go.Proofs
theorem dist_one {a b : ByteArray} {t : List ByteArray} (ht : wordsB t = true) : dist (a :: t) (b :: t) ≤ 1 := by
 have h0 : dist t t = 0 := (dist_eq ht).2 rfl
 rw [dist,distRow]
 split <;> omega
theorem dist_names {a b : ByteArray} {t : List ByteArray} (hb : wordB b = true) (ht : wordsB t = true) : dist (a :: t) (b :: t) = 0 ↔ a = b := by
 rw [dist_eq (by unfold wordsB at ht ⊢; simp [hb,ht])]
 simp
def textB (t : List Nat) : ByteArray := ⟨(t.map UInt8.ofNat).toArray⟩
theorem textB_size (t : List Nat) : (textB t).size = t.length := by simp [textB,ByteArray.size]
theorem textB_at {t : List Nat} (ht : ∀ c ∈ t,c < 256) {i : Nat} (hi : i < t.length) : byteAt (textB t) i = t[i] := by
 unfold byteAt textB
 simp only [List.getD_eq_getElem?_getD,List.getElem?_map,List.getElem?_eq_getElem hi,Option.map_some,Option.getD_some]
 rw [UInt8.toNat_ofNat']
 exact Nat.mod_eq_of_lt (ht _ (List.getElem_mem hi))
def bytesOf (s : ByteArray) : List Nat := (List.range s.size).map (byteAt s)
theorem bytesOf_text {t : List Nat} (ht : ∀ c ∈ t,c < 256) : bytesOf (textB t) = t := by
 refine List.ext_getElem (by simp [bytesOf,textB_size]) fun i h1 h2 => ?_
 simp only [bytesOf,List.getElem_map,List.getElem_range]
 exact textB_at ht h2
theorem checkE_parts {b : REar} (h : (checkE b).2.2 = 0) : (1 ≤ b.sounds ∧ b.sounds ≤ 4) ∧ (1 ≤ b.alphabets.length ∧ b.alphabets.length ≤ 3) ∧ (alphsE b).2 = 0 ∧ b.spellings.length ≤ 5 ∧ (spelsE b).2 = 0 := by
 unfold checkE at h
 split at h
 ·cases h
 ·rename_i h0
  split at h
  ·cases h
  ·rename_i h1
   split at h
   ·rename_i h2; exact absurd h h2
   ·rename_i h2
    split at h
    ·cases h
    ·split at h
     ·rename_i h4; exact absurd h h4
     ·rename_i h3 h4
      simp [offP] at h0 h1
      exact ⟨by omega,by omega,by omega,by omega,by omega⟩
theorem alph_ok {b : REar} (h : (alphsE b).2 = 0) {n : Nat} (hn : n < b.alphabets.length) : (letrsE b.sounds.toNat (b.alphabets[n]!).letters).2 = 0 ∧ 1 ≤ (b.alphabets[n]!).letters.length ∧ (b.alphabets[n]!).letters.length ≤ 6 := by
 have := failFrom_zero.1 h n hn
 rw [Nat.zero_add] at this
 rw [getElem!_pos b.alphabets n hn]
 unfold alphE at this
 split at this
 ·split at this
  ·cases this
  ·split at this
   ·cases this
   ·rename_i h3
    simp [offP] at h3
    exact ⟨this,by omega,by omega⟩
 ·cases this
theorem spelt_ok {b : REar} (hb : (checkE b).2.2 = 0) {al : Nat} (hal : al < b.alphabets.length) {h : List Nat} (hk : ∀ n ∈ h,n < b.sounds.toNat) {t : List Nat} (e : spellT (b.alphabets[al]!).letters h = some t) :
  wordB (textB t) = true ∧ (checkE { b with spellings := [⟨al,textB t⟩] }).2.2 = 0 ∧ h ∈ stringsL (b.alphabets[al]!).letters b.sounds.toNat (bytesOf (textB t)) := by
 obtain ⟨p1,p2,p3,_,_⟩ := checkE_parts hb
 obtain ⟨q1,q2,q3⟩ := alph_ok p3 hal
 obtain ⟨d1,d2⟩ := letrsE_distinct q1
 obtain ⟨l1,l2,l3,l4⟩ := spellT_hear d1 e
 have hc : ∀ c ∈ t,97 ≤ c ∧ c ≤ 122 := fun c hc => by
  obtain ⟨x,hx,rfl⟩ := l3 c hc
  exact d2 x hx
 have h256 : ∀ c ∈ t,c < 256 := fun c hc' => by have := hc c hc'; omega
 refine ⟨?_,?_,?_⟩
 ·unfold wordB
  rw [textB_size,Bool.and_eq_true,decide_eq_true_eq,List.all_eq_true]
  refine ⟨by omega,fun i hi => ?_⟩
  rw [List.mem_range] at hi
  rw [textB_at h256 hi]
  exact decide_eq_true (hc _ (List.getElem_mem hi))
 ·have hsp : (spelsE { b with spellings := [⟨al,textB t⟩] }).2 = 0 := by
   refine failFrom_zero.2 fun i hi => ?_
   have hi0 : i = 0 := by simpa using hi
   subst hi0
   show spelE _ ⟨al,textB t⟩ = 0
   unfold spelE
   rw [if_neg (by simp [offP]; omega),if_neg (by simp [offP,textB_size]; omega),if_pos]
   rw [List.all_eq_true]
   intro i hi
   rw [List.mem_range,textB_size] at hi
   rw [textB_at h256 hi]
   obtain ⟨x,hx,hxc⟩ := l3 _ (List.getElem_mem hi)
   unfold letrHas
   rw [List.any_eq_true]
   exact ⟨x,hx,by simpa using hxc⟩
  unfold checkE
  rw [if_neg (by simp [offP]; omega),if_neg (by simp [offP]; omega)]
  rw [if_neg (by show ¬ (alphsE { b with spellings := _ }).2 ≠ 0; have : (alphsE { b with spellings := [⟨al,textB t⟩] }) = alphsE b := rfl; rw [this,p3]; simp)]
  rw [if_neg (by simp),if_neg (by rw [hsp]; simp)]
 ·rw [bytesOf_text h256]
  exact mem_strings l4 hk
set_option maxHeartbeats 4000000
set_option maxRecDepth 100000
def strsOf (b : REar) (i : Nat) : List (List Nat) := stringsL (b.alphabets[(b.spellings[i]!).alphabet.toNat]!).letters b.sounds.toNat (bytesOf (b.spellings[i]!).text)
def addH (l : List (List Nat)) (h : List Nat) : List (List Nat) := if l.any (fun x => decide (x = h)) = true then l else l ++ [h]
def keysOf (b : REar) : List (List Nat) := ((List.range b.spellings.length).flatMap (strsOf b)).foldl addH []
def ofH (b : REar) (h : List Nat) (i : Nat) : Bool := (strsOf b i).any fun x => decide (x = h)
def allOf (b : REar) (set : List Nat) : List (List Nat) := (keysOf b).filter fun h => set.all fun i => ofH b h i
def lexN : List Nat → List Nat → Bool
 | a :: s,b :: t => if a = b then lexN s t else decide (a < b)
 | [],_ :: _ => true
 | _,[] => false
def beforeH (h x : List Nat) : Bool := if h.length = x.length then lexN h x else decide (h.length < x.length)
def leastH : List (List Nat) → List Nat
 | [] => []
 | h :: l => l.foldl (fun b x => if beforeH x b = true then x else b) h
def firstH (b : REar) (set : List Nat) : List Nat × Nat := (leastH (allOf b set),(allOf b set).length)
def enterE1 (b : REar) (many : Nat) (l : List Int) : Int := if (checkE b).2.2 ≠ 0 then (checkE b).2.2 else if l.any (offP 0 (many - 1)) = true then 4 else 0
def hearE (b : REar) (l : List Int) : Int := if 5 < l.length then 3 else if l.any (offP 0 (b.sounds - 1)) = true then 7 else 0
def natsI (l : List Int) : List Nat := l.map Int.toNat
def intsN (l : List Nat) : List Int := l.map fun n : Nat => (n : Int)
def countR (b : REar) (s : Int) : Int × Int := if enterE1 b b.spellings.length [s] ≠ 0 then (0,enterE1 b b.spellings.length [s]) else ((firstH b [s.toNat]).2,0)
def firstE (b : REar) (s : Int) : List Int × Int := if enterE1 b b.spellings.length [s] ≠ 0 then ([],enterE1 b b.spellings.length [s]) else (intsN (firstH b [s.toNat]).1,0)
def readsR (b : REar) (s : Int) (l : List Int) : Bool × Int :=
 if enterE1 b b.spellings.length [s] ≠ 0 then (false,enterE1 b b.spellings.length [s]) else if hearE b l ≠ 0 then (false,hearE b l) else (ofH b (natsI l) s.toNat,0)
def alikeR (b : REar) (x y : Int) : Int × Int :=
 if enterE1 b b.spellings.length [x,y] ≠ 0 then (0,enterE1 b b.spellings.length [x,y]) else if x = y then (0,2)
 else if (firstH b [x.toNat]).2 = 1 ∧ (firstH b [y.toNat]).2 = 1 ∧ (firstH b [x.toNat]).1 = (firstH b [y.toNat]).1 then (1,0)
 else if (firstH b [x.toNat,y.toNat]).2 = 0 then (2,0) else (0,0)
def risesI : Int → List Int → Bool
 | _,[] => true
 | last,n :: l => decide (last < n) && risesI n l
def commonR (b : REar) (l : List Int) : List Int × Int :=
 if enterE1 b b.spellings.length l ≠ 0 then ([],enterE1 b b.spellings.length l) else if risesI (-1) l = false ∨ l = [] then ([],2)
 else if (firstH b (natsI l)).2 = 0 then ([],9) else (intsN (firstH b (natsI l)).1,0)
def oddOf (b : REar) (h : List Nat) : List Nat := (List.range b.spellings.length).filter fun i => !ofH b h i
def oddR (b : REar) : List Int × Int :=
 if (checkE b).2.2 ≠ 0 then ([],(checkE b).2.2)
 else (intsN (((keysOf b).map (oddOf b)).foldl (fun x l => if beforeH l x = true then l else x) (List.range b.spellings.length)),0)
def spellR (b : REar) (al : Int) (l : List Int) : ByteArray × Int :=
 if enterE1 b b.alphabets.length [al] ≠ 0 then (ByteArray.empty,enterE1 b b.alphabets.length [al]) else if hearE b l ≠ 0 then (ByteArray.empty,hearE b l)
 else match spellT (b.alphabets[al.toNat]!).letters (natsI l) with
  | some t => (textB t,0)
  | none => (ByteArray.empty,9)
def earX : REar := ⟨3,[⟨⟨#[114,111,109,97,110]⟩,[⟨97,1,false⟩,⟨101,3,false⟩,⟨107,4,false⟩,⟨104,0,true⟩]⟩,⟨⟨#[97,98,106,97,100]⟩,[⟨107,4,false⟩,⟨121,2,true⟩,⟨110,1,false⟩]⟩],
 [⟨0,⟨#[107,101]⟩⟩,⟨1,⟨#[107,121]⟩⟩,⟨0,⟨#[104,107,97]⟩⟩,⟨1,⟨#[107,110]⟩⟩]⟩
theorem xCount : countR earX 0 = (2,0) := by decide +kernel
theorem xFirst : firstE earX 1 = ([2],0) := by decide +kernel
theorem xReads1 : readsR earX 1 [2,1] = (true,0) := by decide +kernel
theorem xReads2 : readsR earX 1 [2,0] = (false,0) := by decide +kernel
theorem xAlike1 : alikeR earX 2 3 = (1,0) := by decide +kernel
theorem xAlike2 : alikeR earX 0 1 = (0,0) := by decide +kernel
theorem xAlike3 : alikeR earX 1 2 = (2,0) := by decide +kernel
theorem xCommon1 : commonR earX [0,2,3] = ([2,0],0) := by decide +kernel
theorem xCommon2 : (commonR earX [1,2]).2 = 9 := by decide +kernel
theorem xOdd : oddR earX = ([1],0) := by decide +kernel
theorem xSpell1 : spellR earX 0 [2,1] = (⟨#[107,101]⟩,0) := by decide +kernel
theorem xSpell2 : spellR earX 1 [0,0] = (⟨#[110,110]⟩,0) := by decide +kernel
end Go.Proofs.YtdmejgfcaacdoaaGreat.Abs
