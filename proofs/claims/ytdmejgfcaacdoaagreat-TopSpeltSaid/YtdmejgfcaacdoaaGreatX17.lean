/- Lemmas for the statements of this seat (X17): they hold without conditions beyond those that each one states. -/
import Derived.Test.YtdmejgfcaacdoaaGreatX16
import Derived.Lib.FieldsP
/- Data: shelves of forms,letters; what is computed of them. -/
namespace Go.Proofs.YtdmejgfcaacdoaaGreat.Abs
set_option linter.unusedSimpArgs false
open Go Go.RowKit Go.Proofs
structure RPart where
 words : List ByteArray
 lo : Int
 hi : Int
deriving Inhabited
structure RForm where
 name : ByteArray
 parts : List RPart
deriving Inhabited
structure RShelf where
 width : Int
 forms : List RForm
def partA (x : RPart) : AV := .agg [strs x.words,.int .i64 x.lo,.int .i64 x.hi]
def formL (f : RForm) : List AV := [.str f.name,.slice 3 (f.parts.map partA)]
def formA (f : RForm) : AV := .agg (formL f)
def shelfL (s : RShelf) : List AV := [.int .i64 s.width,.slice 2 (s.forms.map formA)]
def shelfA (s : RShelf) : AV := .agg (shelfL s)
def letterAt (b : Nat) : Bool := decide (97 ≤ b ∧ b ≤ 122)
def wordB (s : ByteArray) : Bool := decide (1 ≤ s.size ∧ s.size ≤ 8) && (List.range s.size).all fun i => letterAt (byteAt s i)
def wordsB (l : List ByteArray) : Bool := l.all wordB
def partE (p : RPart) : Int :=
 if 3 < p.words.length then 3 else if wordsB p.words = false then 6
 else if p.words ≠ [] then (if p.lo = 0 ∧ p.hi = 0 then 0 else 2)
 else if (offP 0 3 p.lo || offP 0 3 p.hi) = true ∨ p.hi = 0 then 7 else if p.hi < p.lo then 2 else 0
def partsE : List RPart → Int
 | [] => 0
 | p :: l => if partE p ≠ 0 then partE p else partsE l
def formE (l : List RForm) (i : Nat) (f : RForm) : Int :=
 if nameB f.name = true then (if (l.take i).any (fun y => decide (y.name = f.name)) = true then 5 else if 5 < f.parts.length then 3 else partsE f.parts) else 6
def formsE (s : RShelf) : Int × Int := failFrom (formE s.forms) 0 s.forms
def checkS (s : RShelf) : Int × Int × Int :=
 if offP 8 30 s.width = true then (1,0,7)
 else if 4 < s.forms.length then (2,0,3)
 else if (formsE s).2 ≠ 0 then (2,(formsE s).1,(formsE s).2)
 else (0,0,0)
def letE (l : List ByteArray) : Int := if 15 < l.length then 3 else if wordsB l = true then 0 else 6
def roomsOf : List RPart → List (Int × Int)
 | [] => []
 | p :: l => if p.words = [] then (p.lo,p.hi) :: roomsOf l else roomsOf l
def upN (lo hi : Int) : List Nat := (List.range (hi - lo + 1).toNat).map fun i => lo.toNat + i
def countsOf : List (Int × Int) → List (List Nat)
 | [] => [[]]
 | r :: l => (upN r.1 r.2).flatMap fun n => (countsOf l).map (n :: ·)
def shapeOf : List RPart → List Nat → List ByteArray
 | [],_ => []
 | p :: l,m => if p.words = [] then List.replicate m.head! ByteArray.empty ++ shapeOf l m.tail else p.words ++ shapeOf l m
def fitW (shape w : ByteArray) : Bool := decide (shape = ByteArray.empty) || decide (shape = w)
def wfits : List ByteArray → List ByteArray → Bool
 | [],[] => true
 | b :: s,a :: f => fitW b a && wfits s f
 | _,_ => false
def waysOf (ps : List RPart) (l : List ByteArray) : List (List Nat) := (countsOf (roomsOf ps)).filter fun m => wfits (shapeOf ps m) l
def distRow (a : ByteArray) (below : List ByteArray → Nat) : List ByteArray → Nat
 | [] => 1 + below []
 | b :: s => min (min (if fitW b a = true then below s else 1 + below s) (1 + below (b :: s))) (1 + distRow a below s)
def dist : List ByteArray → List ByteArray → Nat
 | [],s => s.length
 | a :: f,s => distRow a (dist f) s
def kindOf : List ByteArray → List ByteArray → Nat
 | [],[] => 4
 | [],_ :: _ => 3
 | _ :: _,[] => 2
 | a :: f,b :: s =>
  if fitW b a = true ∧ dist (a :: f) (b :: s) = dist f s then 0 else if fitW b a = false ∧ dist (a :: f) (b :: s) = 1 + dist f s then 1
  else if dist (a :: f) (b :: s) = 1 + dist f (b :: s) then 2 else 3
def marksOf : Nat → List ByteArray → List ByteArray → List (Int × ByteArray)
 | 0,_,_ => []
 | n + 1,f,s => match kindOf f s with
  | 0 => (0,ByteArray.empty) :: marksOf n f.tail s.tail
  | 1 => (1,s.headD ByteArray.empty) :: marksOf n f.tail s.tail
  | 2 => (2,ByteArray.empty) :: marksOf n f.tail s
  | 3 => (3,s.headD ByteArray.empty) :: marksOf n f s.tail
  | _ => []
def leastOf : List Nat → Int
 | [] => -1
 | n :: l => l.foldl (fun (b : Int) (x : Nat) => min b x) n
def mendsOf (ps : List RPart) (l : List ByteArray) : Int := leastOf ((countsOf (roomsOf ps)).map fun m => dist l (shapeOf ps m))
def ofR (s : RShelf) (l : List ByteArray) : List Int × Int :=
 if (checkS s).2.2 ≠ 0 then ([],(checkS s).2.2) else if letE l ≠ 0 then ([],letE l)
 else (((List.range s.forms.length).filter fun i => (waysOf (s.forms[i]!).parts l) ≠ []).map fun i : Nat => (i : Int),0)
def enterS (s : RShelf) (n : Int) : Int := if (checkS s).2.2 ≠ 0 then (checkS s).2.2 else if offP 0 (s.forms.length - 1) n = true then 4 else 0
def enterL (s : RShelf) (n : Int) (l : List ByteArray) : Int := if enterS s n ≠ 0 then enterS s n else letE l
def mendR (s : RShelf) (n : Int) (l : List ByteArray) : Int × Int :=
 if enterL s n l ≠ 0 then (0,enterL s n l) else (mendsOf (s.forms[n.toNat]!).parts l,0)
def fewestR (f t : List ByteArray) : List (Int × ByteArray) × Int × Int :=
 if letE f ≠ 0 then ([],0,letE f) else if letE t ≠ 0 then ([],0,letE t) else (marksOf (f.length + t.length) f t,dist f t,0)
set_option maxHeartbeats 4000000
set_option maxRecDepth 100000
theorem distRow_zero {a : ByteArray} {f : List ByteArray} (h : ∀ s,dist f s = 0 ↔ wfits s f = true) : ∀ s,distRow a (dist f) s = 0 ↔ wfits s (a :: f) = true
 | [] => by simp [distRow,wfits]
 | b :: s => by
  have := h s
  have h1 : distRow a (dist f) (b :: s) = 0 ↔ (if fitW b a = true then dist f s else 1 + dist f s) = 0 := by
   rw [distRow]; omega
  rw [h1,wfits,Bool.and_eq_true]
  by_cases e : fitW b a = true
  ·rw [if_pos e,this]; simp [e]
  ·rw [if_neg e]; simp [e]
theorem dist_zero : ∀ f s,dist f s = 0 ↔ wfits s f = true
 | [],[] => by simp [dist,wfits]
 | [],_ :: _ => by simp [dist,wfits]
 | a :: f,s => distRow_zero (dist_zero f) s
theorem empty_size {s : ByteArray} (h : 1 ≤ s.size) : s ≠ ByteArray.empty := by rintro rfl; simp at h
theorem wordB_ne {s : ByteArray} (h : wordB s = true) : s ≠ ByteArray.empty := by
 unfold wordB at h
 simp only [Bool.and_eq_true,decide_eq_true_eq] at h
 exact empty_size h.1.1
theorem wfits_eq : ∀ {s f : List ByteArray},(∀ w ∈ s,wordB w = true) → (wfits s f = true ↔ s = f)
 | [],[],_ => by simp [wfits]
 | [],_ :: _,_ => by simp [wfits]
 | _ :: _,[],_ => by simp [wfits]
 | b :: s,a :: f,h => by
  rw [wfits,Bool.and_eq_true,wfits_eq fun w hw => h w (List.mem_cons_of_mem _ hw)]
  have := wordB_ne (h b List.mem_cons_self)
  simp [fitW,this]
theorem dist_eq {f s : List ByteArray} (h : wordsB s = true) : dist f s = 0 ↔ f = s := by
 rw [dist_zero,wfits_eq fun w hw => List.all_eq_true.1 h w hw,eq_comm]
theorem partsE_zero : ∀ {l : List RPart},partsE l = 0 ↔ ∀ p ∈ l,partE p = 0
 | [] => by simp [partsE]
 | p :: l => by
  rw [partsE]
  by_cases e : partE p = 0
  ·rw [if_neg (by simp [e]),partsE_zero]; simp [e]
  ·rw [if_pos e]; simp [e]
theorem partE_words {p : RPart} (h : partE p = 0) : wordsB p.words = true ∧ p.words.length ≤ 3 ∧ (p.words = [] → 0 ≤ p.lo ∧ p.lo ≤ p.hi ∧ p.hi ≤ 3 ∧ 1 ≤ p.hi) := by
 unfold partE at h
 split at h
 ·cases h
 ·split at h
  ·cases h
  ·rename_i h1 h2
   refine ⟨by simpa using h2,by omega,fun e => ?_⟩
   rw [if_neg (by simp [e])] at h
   split at h
   ·cases h
   ·rename_i h3
    split at h
    ·cases h
    ·simp only [not_or,Bool.not_eq_true,Bool.or_eq_false_iff] at h3
     obtain ⟨⟨a,b⟩,c⟩ := h3
     simp [offP] at a b
     omega
theorem checkS_parts {s : RShelf} (h : (checkS s).2.2 = 0) {n : Nat} (hn : n < s.forms.length) : partsE (s.forms[n]!).parts = 0 ∧ (s.forms[n]!).parts.length ≤ 5 ∧ nameB (s.forms[n]!).name = true := by
 unfold checkS at h
 split at h
 ·cases h
 ·split at h
  ·cases h
  ·split at h
   ·rename_i h1; exact absurd h h1
   ·rename_i h1
    have h2 : (formsE s).2 = 0 := by simpa using h1
    have := (failFrom_zero).1 h2 n hn
    rw [Nat.zero_add] at this
    rw [getElem!_pos s.forms n hn]
    unfold formE at this
    split at this
    ·rename_i h3
     split at this
     ·cases this
     ·split at this
      ·cases this
      ·exact ⟨this,by omega,h3⟩
    ·cases this
theorem checkS_many {s : RShelf} (h : (checkS s).2.2 = 0) : s.forms.length ≤ 4 ∧ 8 ≤ s.width ∧ s.width ≤ 30 := by
 unfold checkS at h
 split at h
 ·cases h
 ·rename_i h0
  split at h
  ·cases h
  ·simp [offP] at h0; omega
theorem upN_ne {lo hi : Int} (h : lo ≤ hi) : upN lo hi ≠ [] := by
 unfold upN
 obtain ⟨k,hk⟩ : ∃ k,(hi - lo + 1).toNat = k + 1 := ⟨(hi - lo).toNat,by omega⟩
 rw [hk]; simp
theorem countsOf_ne : ∀ {l : List RPart},partsE l = 0 → countsOf (roomsOf l) ≠ []
 | [],_ => by simp [roomsOf,countsOf]
 | p :: l,h => by
  rw [partsE_zero] at h
  have ih := countsOf_ne (partsE_zero.2 fun q hq => h q (List.mem_cons_of_mem _ hq))
  rw [roomsOf]
  split
  ·rename_i e
   have hp := (partE_words (h p List.mem_cons_self)).2.2 e
   rw [countsOf]
   have hu := upN_ne (lo := p.lo) (hi := p.hi) hp.2.1
   cases hc : upN p.lo p.hi with
   | nil => exact absurd hc hu
   | cons a t => simp [List.flatMap_cons,ih]
  ·exact ih
def textGo (w : Int) : Int → List ByteArray → ByteArray
 | _,[] => ByteArray.empty
 | room,s :: l => if (s.size : Int) < room then ⟨#[32]⟩ ++ s ++ textGo w (room - (s.size + 1)) l else ⟨#[10]⟩ ++ s ++ textGo w (w - s.size) l
def textOf (w : Int) : List ByteArray → ByteArray
 | [] => ByteArray.empty
 | s :: l => s ++ textGo w (w - s.size) l ++ ⟨#[10]⟩
def sepB (b : Nat) : Bool := decide (b = 32 ∨ b = 10)
def fieldsOf (s : ByteArray) : List ByteArray := Lib.goFieldsP sepB s
def readR (s : RShelf) (t : ByteArray) : List ByteArray × Int :=
 if (checkS s).2.2 ≠ 0 then ([],(checkS s).2.2) else if 160 < t.size then ([],3)
 else if letE (fieldsOf t) ≠ 0 ∨ textOf s.width (fieldsOf t) ≠ t then ([],6) else (fieldsOf t,0)
def writeR (s : RShelf) (l : List ByteArray) : ByteArray × Int :=
 if (checkS s).2.2 ≠ 0 then (ByteArray.empty,(checkS s).2.2) else if letE l ≠ 0 then (ByteArray.empty,letE l) else (textOf s.width l,0)
def fieldsGo (cur : List UInt8) : List UInt8 → List (List UInt8)
 | [] => if cur = [] then [] else [cur]
 | b :: l => if sepB b.toNat = true then (if cur = [] then fieldsGo [] l else cur :: fieldsGo [] l) else fieldsGo (cur ++ [b]) l
theorem size_len (s : ByteArray) : s.size = s.data.toList.length := by simp
theorem drop_byte {s : ByteArray} {k : Nat} (h : k < s.size) : s.data.toList.drop k = (s.data.toList[k]'(by rw [← size_len]; exact h)) :: s.data.toList.drop (k + 1) := List.drop_eq_getElem_cons (by rw [← size_len]; exact h)
theorem byteAt_elem {s : ByteArray} {k : Nat} (h : k < s.size) : ((s.data.toList[k]'(by rw [← size_len]; exact h)).toNat) = byteAt s k := by
 unfold byteAt
 rw [List.getD_eq_getElem?_getD,List.getElem?_eq_getElem (by rw [← size_len]; exact h)]
 rfl
theorem spansP_eq (s : ByteArray) (ha : ∀ i < s.size,byteAt s i < 128) : ∀ (f pos : Nat) (st : Option Nat) (acc : List (Nat × Nat)),s.size ≤ pos + f → pos ≤ s.size → (∀ a,st = some a → a < pos) →
  acc.map (fun p => Lib.pieceU s.data.toList p.1 p.2) ++ fieldsGo (Lib.openPiece s.data.toList st pos) (s.data.toList.drop pos) = (Lib.closeSpans s (Lib.spansFromP sepB s f pos st acc)).map (fun p => Lib.pieceU s.data.toList p.1 p.2)
 | 0,pos,st,acc,h,hp,hst => by
  obtain rfl : pos = s.size := by omega
  have hd : s.data.toList.drop s.size = [] := List.drop_eq_nil_of_le (by rw [← size_len]; exact Nat.le_refl _)
  rw [hd,fieldsGo]
  cases st with
  | none => simp [Lib.spansFromP,Lib.closeSpans,Lib.openPiece]
  | some a =>
   have := Lib.pieceU_ne s.data.toList a s.size (hst a rfl) (by rw [← size_len]; exact Nat.le_refl _)
   simp [Lib.spansFromP,Lib.closeSpans,Lib.openPiece,this]
 | f + 1,pos,st,acc,h,hp,hst => by
  by_cases hlt : pos < s.size
  ·rw [drop_byte hlt,fieldsGo,byteAt_elem hlt,Lib.spansFromP.eq_def]
   dsimp only
   rw [if_pos hlt,decode_low hlt (ha pos hlt)]
   cases hsp : sepB (byteAt s pos) with
   | true =>
    simp only [if_true]
    cases st with
    | none =>
     have ih := spansP_eq s ha f (pos + 1) none acc (by omega) (by omega) (fun a h => by cases h)
     simpa [Lib.openPiece] using ih
    | some a =>
     have hpn := Lib.pieceU_ne s.data.toList a pos (hst a rfl) (by rw [← size_len]; omega)
     have ih := spansP_eq s ha f (pos + 1) none (acc ++ [(a,pos)]) (by omega) (by omega) (fun a h => by cases h)
     simpa [Lib.openPiece,hpn] using ih
   | false =>
    simp only [Bool.false_eq_true,if_false]
    have h1 : [(s.data.toList[pos]'(by rw [← size_len]; exact hlt))] = (s.data.toList.drop pos).take 1 := by rw [drop_byte hlt]; rfl
    cases st with
    | none =>
     have ih := spansP_eq s ha f (pos + 1) (some pos) acc (by omega) (by omega) (fun a h => by cases h; omega)
     have e : ([] : List UInt8) ++ [(s.data.toList[pos]'(by rw [← size_len]; exact hlt))] = Lib.pieceU s.data.toList pos (pos + 1) := by
      rw [h1]; unfold Lib.pieceU; rw [List.nil_append,Nat.add_sub_cancel_left]
     simp only [Lib.openPiece] at ih ⊢
     rw [e]; exact ih
    | some a =>
     have ih := spansP_eq s ha f (pos + 1) (some a) acc (by omega) (by omega) (fun b h => by cases h; have := hst a rfl; omega)
     simp only [Lib.openPiece] at ih ⊢
     rw [h1,Lib.pieceU_grow _ _ _ _ (Nat.le_of_lt (hst a rfl))]
     exact ih
  ·obtain rfl : pos = s.size := by omega
   have hd : s.data.toList.drop s.size = [] := List.drop_eq_nil_of_le (by rw [← size_len]; exact Nat.le_refl _)
   rw [hd,fieldsGo,Lib.spansFromP_end _ s _ _ _ _ hlt]
   cases st with
   | none => simp [Lib.closeSpans,Lib.openPiece]
   | some a =>
    have := Lib.pieceU_ne s.data.toList a s.size (hst a rfl) (by rw [← size_len]; exact Nat.le_refl _)
    simp [Lib.closeSpans,Lib.openPiece,this]
theorem extract_piece (s : ByteArray) (a b : Nat) : (s.extract a b).data.toList = Lib.pieceU s.data.toList a b := by
 unfold Lib.pieceU
 rw [ByteArray.data_extract,Array.toList_extract,List.extract_eq_take_drop]
theorem fieldsOf_go (s : ByteArray) (ha : ∀ i < s.size,byteAt s i < 128) : (fieldsOf s).map (·.data.toList) = fieldsGo [] s.data.toList := by
 have := spansP_eq s ha s.size 0 none [] (by omega) (by omega) (fun a h => by cases h)
 simp only [List.map_nil,List.nil_append,Lib.openPiece,List.drop_zero] at this
 rw [this]
 unfold fieldsOf Lib.goFieldsP Lib.spansOfP
 rw [List.map_map]
 exact List.map_congr_left fun p _ => extract_piece s p.1 p.2
theorem fieldsGo_word : ∀ (w cur rest : List UInt8),(∀ b ∈ w,sepB b.toNat = false) → fieldsGo cur (w ++ rest) = fieldsGo (cur ++ w) rest
 | [],cur,rest,_ => by simp
 | b :: w,cur,rest,h => by
  rw [List.cons_append,fieldsGo,if_neg (by rw [h b List.mem_cons_self]; decide),fieldsGo_word w _ rest fun c hc => h c (List.mem_cons_of_mem _ hc)]
  simp
theorem word_bytes {s : ByteArray} (h : wordB s = true) : s.data.toList ≠ [] ∧ ∀ b ∈ s.data.toList,97 ≤ b.toNat ∧ b.toNat ≤ 122 := by
 unfold wordB at h
 simp only [Bool.and_eq_true,decide_eq_true_eq,List.all_eq_true,List.mem_range] at h
 refine ⟨fun e => ?_,fun b hb => ?_⟩
 ·have h0 := size_len s
  rw [e] at h0
  have h1 : s.size = 0 := h0
  omega
 ·obtain ⟨i,hi,rfl⟩ := List.getElem_of_mem hb
  have h1 := h.2 i (by rw [size_len]; exact hi)
  rw [byteAt_elem (by rw [size_len]; exact hi)]
  simpa [letterAt] using h1
theorem word_sep {s : ByteArray} (h : wordB s = true) : ∀ b ∈ s.data.toList,sepB b.toNat = false := by
 intro b hb
 have := (word_bytes h).2 b hb
 unfold sepB
 exact decide_eq_false (by omega)
theorem append_bytes (a b : ByteArray) : (a ++ b).data.toList = a.data.toList ++ b.data.toList := by simp
theorem textGo_fields (w : Int) : ∀ (l : List ByteArray) (r : Int) (cur : List UInt8),wordsB l = true → cur ≠ [] → fieldsGo cur ((textGo w r l).data.toList ++ [10]) = cur :: l.map (·.data.toList)
 | [],r,cur,_,hc => by simp [textGo,fieldsGo,sepB,hc]
 | s :: l,r,cur,hl,hc => by
  have hs : wordB s = true := List.all_eq_true.1 hl s List.mem_cons_self
  have hl' : wordsB l = true := List.all_eq_true.2 fun x hx => List.all_eq_true.1 hl x (List.mem_cons_of_mem _ hx)
  have key : ∀ (c : UInt8) (r' : Int),sepB c.toNat = true → fieldsGo cur ((⟨#[c]⟩ ++ s ++ textGo w r' l : ByteArray).data.toList ++ [10]) = cur :: (s :: l).map (·.data.toList) := by
   intro c r' hcs
   rw [append_bytes,append_bytes]
   show fieldsGo cur (([c] ++ s.data.toList ++ (textGo w r' l).data.toList) ++ [10]) = _
   rw [List.append_assoc,List.append_assoc,List.singleton_append,fieldsGo,if_pos hcs,if_neg hc,fieldsGo_word _ _ _ (word_sep hs),List.nil_append,textGo_fields w l r' _ hl' (word_bytes hs).1]
   rfl
  rw [textGo]
  split
  ·exact key 32 _ rfl
  ·exact key 10 _ rfl
theorem textGo_bytes (w : Int) : ∀ (l : List ByteArray) (r : Int),wordsB l = true → (∀ b ∈ (textGo w r l).data.toList,b.toNat < 128) ∧ (textGo w r l).size ≤ l.length * 9
 | [],r,_ => by simp [textGo]
 | s :: l,r,hl => by
  have hs : wordB s = true := List.all_eq_true.1 hl s List.mem_cons_self
  have hl' : wordsB l = true := List.all_eq_true.2 fun x hx => List.all_eq_true.1 hl x (List.mem_cons_of_mem _ hx)
  have hsz : s.size ≤ 8 := by
   unfold wordB at hs
   simp only [Bool.and_eq_true,decide_eq_true_eq] at hs
   exact hs.1.2
  have key : ∀ (c : UInt8) (r' : Int),c.toNat < 128 → (∀ b ∈ (⟨#[c]⟩ ++ s ++ textGo w r' l : ByteArray).data.toList,b.toNat < 128) ∧ (⟨#[c]⟩ ++ s ++ textGo w r' l : ByteArray).size ≤ (s :: l).length * 9 := by
   intro c r' hc
   obtain ⟨h1,h2⟩ := textGo_bytes w l r' hl'
   refine ⟨fun b hb => ?_,?_⟩
   ·rw [append_bytes,append_bytes] at hb
    rcases List.mem_append.1 hb with hb | hb
    ·rcases List.mem_append.1 hb with hb | hb
     ·simp at hb; subst hb; exact hc
     ·have := (word_bytes hs).2 b hb; omega
    ·exact h1 b hb
   ·rw [ByteArray.size_append,ByteArray.size_append,List.length_cons]
    show 1 + s.size + _ ≤ _
    omega
  rw [textGo]
  split
  ·exact key 32 _ (by decide)
  ·exact key 10 _ (by decide)
theorem textOf_bytes (w : Int) {l : List ByteArray} (hl : wordsB l = true) : (∀ i < (textOf w l).size,byteAt (textOf w l) i < 128) ∧ (textOf w l).size ≤ l.length * 9 := by
 cases l with
 | nil => simp [textOf]
 | cons s l =>
  have hs : wordB s = true := List.all_eq_true.1 hl s List.mem_cons_self
  have hl' : wordsB l = true := List.all_eq_true.2 fun x hx => List.all_eq_true.1 hl x (List.mem_cons_of_mem _ hx)
  have hsz : s.size ≤ 8 := by
   unfold wordB at hs
   simp only [Bool.and_eq_true,decide_eq_true_eq] at hs
   exact hs.1.2
  obtain ⟨h1,h2⟩ := textGo_bytes w l (w - s.size) hl'
  refine ⟨fun i hi => ?_,?_⟩
  ·rw [← byteAt_elem hi]
   have hm := List.getElem_mem (l := (textOf w (s :: l)).data.toList) (n := i) (by rw [← size_len]; exact hi)
   generalize (textOf w (s :: l)).data.toList[i]'(by rw [← size_len]; exact hi) = b at hm ⊢
   rw [textOf,append_bytes,append_bytes] at hm
   rcases List.mem_append.1 hm with hb | hb
   ·rcases List.mem_append.1 hb with hb | hb
    ·have := (word_bytes hs).2 b hb; omega
    ·exact h1 b hb
   ·simp at hb; subst hb; decide
  ·rw [textOf,ByteArray.size_append,ByteArray.size_append,List.length_cons]
   show s.size + _ + 1 ≤ _
   omega
theorem bytes_ext : ∀ {a b : List ByteArray},a.map (·.data.toList) = b.map (·.data.toList) → a = b
 | [],[],_ => rfl
 | [],_ :: _,h => by cases h
 | _ :: _,[],h => by cases h
 | x :: a,y :: b,h => by
  simp only [List.map_cons,List.cons.injEq] at h
  have : x = y := ByteArray.ext (Array.ext' h.1)
  rw [this,bytes_ext h.2]
theorem fields_text (w : Int) {l : List ByteArray} (hl : wordsB l = true) : fieldsOf (textOf w l) = l := by
 refine bytes_ext ?_
 rw [fieldsOf_go _ (textOf_bytes w hl).1]
 cases l with
 | nil => rfl
 | cons s l =>
  have hs : wordB s = true := List.all_eq_true.1 hl s List.mem_cons_self
  have hl' : wordsB l = true := List.all_eq_true.2 fun x hx => List.all_eq_true.1 hl x (List.mem_cons_of_mem _ hx)
  rw [textOf,append_bytes,append_bytes]
  show fieldsGo [] (s.data.toList ++ (textGo w (w - s.size) l).data.toList ++ [10]) = _
  rw [List.append_assoc,fieldsGo_word _ _ _ (word_sep hs),List.nil_append,textGo_fields w l _ _ hl' (word_bytes hs).1]
  rfl
theorem letE_zero {l : List ByteArray} (h : letE l = 0) : l.length ≤ 15 ∧ wordsB l = true := by
 unfold letE at h
 split at h
 ·cases h
 ·split at h
  ·rename_i h1; exact ⟨by omega,h1⟩
  ·cases h
theorem read_write {s : RShelf} {l : List ByteArray} (hs : (checkS s).2.2 = 0) (hl : letE l = 0) : writeR s l = (textOf s.width l,0) ∧ readR s (textOf s.width l) = (l,0) := by
 obtain ⟨h1,h2⟩ := letE_zero hl
 have hb := (textOf_bytes s.width h2).2
 refine ⟨?_,?_⟩
 ·unfold writeR; rw [if_neg (by simp [hs]),if_neg (by simp [hl])]
 ·unfold readR
  rw [if_neg (by simp [hs]),if_neg (by omega),fields_text _ h2,if_neg (by simp [hl])]
def fillsE : List (Int × Int) → List (List ByteArray) → Int
 | r :: rs,f :: fs => if offP r.1 r.2 f.length = true then 7 else if wordsB f = false then 6 else fillsE rs fs
 | _,_ => 0
def builtOf : List RPart → List (List ByteArray) → List ByteArray
 | [],_ => []
 | p :: l,fs => if p.words = [] then fs.headD [] ++ builtOf l fs.tail else p.words ++ builtOf l fs
def makeR (s : RShelf) (n : Int) (fs : List (List ByteArray)) : List ByteArray × Int :=
 if enterS s n ≠ 0 then ([],enterS s n)
 else if fs.length ≠ (roomsOf (s.forms[n.toNat]!).parts).length then ([],3)
 else if fillsE (roomsOf (s.forms[n.toNat]!).parts) fs ≠ 0 then ([],fillsE (roomsOf (s.forms[n.toNat]!).parts) fs)
 else (builtOf (s.forms[n.toNat]!).parts fs,0)
def leastAt : List Int → Int × Int
 | [] => (0,-1)
 | n :: l => (l.foldl (fun (x : Int × Int × Int) m => if m < x.2.1 then (x.2.2,m,x.2.2 + 1) else (x.1,x.2.1,x.2.2 + 1)) (0,n,1)) |> fun x => (x.1,x.2.1)
def nearestR (s : RShelf) (l : List ByteArray) : Int × Int × Int :=
 if (checkS s).2.2 ≠ 0 then (0,0,(checkS s).2.2) else if letE l ≠ 0 then (0,0,letE l) else if s.forms.length = 0 then (0,0,9)
 else ((leastAt (s.forms.map fun f => mendsOf f.parts l)).1,(leastAt (s.forms.map fun f => mendsOf f.parts l)).2,0)
def shelfX : RShelf := ⟨12,[⟨⟨#[112,108,101,97]⟩,[⟨[⟨#[116,111]⟩,⟨#[116,104,101]⟩],0,0⟩,⟨[],1,2⟩,⟨[⟨#[105]⟩,⟨#[97,115,107]⟩],0,0⟩,⟨[],1,3⟩]⟩,
 ⟨⟨#[110,111,116,101]⟩,[⟨[],1,2⟩,⟨[⟨#[105]⟩,⟨#[97,115,107]⟩],0,0⟩,⟨[],0,2⟩]⟩,
 ⟨⟨#[108,105,115,116]⟩,[⟨[],1,2⟩,⟨[],1,2⟩]⟩]⟩
def wTo : ByteArray := ⟨#[116,111]⟩
def wThe : ByteArray := ⟨#[116,104,101]⟩
def wJudge : ByteArray := ⟨#[106,117,100,103,101]⟩
def wI : ByteArray := ⟨#[105]⟩
def wAsk : ByteArray := ⟨#[97,115,107]⟩
def wMercy : ByteArray := ⟨#[109,101,114,99,121]⟩
def wFor : ByteArray := ⟨#[102,111,114]⟩
def letX : List ByteArray := [wTo,wThe,wJudge,wI,wAsk,wMercy]
def letY : List ByteArray := [wTo,wJudge,wI,wAsk,wFor,wMercy]
def letABC : List ByteArray := [⟨#[97]⟩,⟨#[98]⟩,⟨#[99]⟩]
def marksX : List (Int × ByteArray) := [(0,ByteArray.empty),(2,ByteArray.empty),(0,ByteArray.empty),(0,ByteArray.empty),(0,ByteArray.empty),(3,wFor),(0,ByteArray.empty)]
theorem shelfX_ok : (checkS shelfX).2.2 = 0 := by decide +kernel
theorem xMake : makeR shelfX 0 [[wJudge],[wMercy]] = (letX,0) := by decide +kernel
theorem xOf : ofR shelfX letABC = ([2],0) := by decide +kernel
def textX : ByteArray := ⟨#[116,111,32,116,104,101,32,106,117,100,103,101,10,105,32,97,115,107,32,109,101,114,99,121,10]⟩
theorem xWrite : writeR shelfX letX = (textX,0) := by decide +kernel
theorem letX_ok : letE letX = 0 := by decide +kernel
theorem xRead : readR shelfX textX = (letX,0) := by
 have h := (read_write shelfX_ok letX_ok).2
 rwa [show textOf shelfX.width letX = textX by decide +kernel] at h
theorem xFewest : fewestR letX letY = (marksX,2,0) := by decide +kernel
theorem xMend : mendR shelfX 2 letX = (2,0) := by decide +kernel
theorem xNearest : nearestR shelfX letX = (0,0,0) := by decide +kernel
theorem xDown : (mendR shelfX 3 letX).2 = 4 := by decide +kernel
def textBad : ByteArray := ⟨#[116,111,32,116,104,101,10]⟩
theorem xBad : readR shelfX textBad = ([wTo,wThe],0) := by
 have h := (read_write (l := [wTo,wThe]) shelfX_ok (by decide +kernel)).2
 rwa [show textOf shelfX.width [wTo,wThe] = textBad by decide +kernel] at h
def textWide : ByteArray := ⟨#[116,111,32,116,104,101,32,106,117,100,103,101,32,105,10,97,115,107,32,109,101,114,99,121,10]⟩
theorem xWide : readR shelfX textWide = ([],6) := by
 have h : fieldsOf textWide = letX := by
  refine bytes_ext ?_
  rw [fieldsOf_go _ (by decide +kernel)]
  decide +kernel
 unfold readR
 rw [h,if_neg (by simp [shelfX_ok]),if_neg (by decide +kernel),if_pos (by decide +kernel)]
structure RLetr where
 c : Nat
 sounds : Int
 silent : Bool
deriving Inhabited
structure RAlph where
 name : ByteArray
 letters : List RLetr
deriving Inhabited
structure RSpel where
 alphabet : Int
 text : ByteArray
deriving Inhabited
structure REar where
 sounds : Int
 alphabets : List RAlph
 spellings : List RSpel
def letrA (x : RLetr) : AV := .agg [.int .u8 x.c,.int .i64 x.sounds,.bool x.silent]
def alphA (x : RAlph) : AV := .agg [.str x.name,.slice 3 (x.letters.map letrA)]
def spelA (x : RSpel) : AV := .agg [.int .i64 x.alphabet,.str x.text]
def earL (b : REar) : List AV := [.int .i64 b.sounds,.slice 2 (b.alphabets.map alphA),.slice 2 (b.spellings.map spelA)]
def earA (b : REar) : AV := .agg (earL b)
def letrE (k : Nat) (l : List RLetr) (i : Nat) (x : RLetr) : Int :=
 if offP 97 122 x.c = true then 6 else if (l.take i).any (fun y => decide (y.c = x.c)) = true then 5
 else if offP 0 (((2 ^ k : Nat) : Int) - 1) x.sounds = true then 7 else if x.sounds = 0 ∧ x.silent = false then 2 else 0
def letrsE (k : Nat) (l : List RLetr) : Int × Int := failFrom (letrE k l) 0 l
def alphE (b : REar) (i : Nat) (x : RAlph) : Int :=
 if nameB x.name = true then (if ((b.alphabets.take i).any fun y => decide (y.name = x.name)) = true then 5
  else if offP 1 6 x.letters.length = true then 3 else (letrsE b.sounds.toNat x.letters).2) else 6
def letrHas (l : List RLetr) (c : Nat) : Bool := l.any fun y => decide (y.c = c)
def spelE (b : REar) (x : RSpel) : Int :=
 if offP 0 (b.alphabets.length - 1) x.alphabet = true then 4 else if offP 1 5 x.text.size = true then 3
 else if ((List.range x.text.size).all fun i => letrHas (b.alphabets[x.alphabet.toNat]!).letters (byteAt x.text i)) = true then 0 else 6
def alphsE (b : REar) : Int × Int := failFrom (alphE b) 0 b.alphabets
def spelsE (b : REar) : Int × Int := failFrom (fun _ => spelE b) 0 b.spellings
def checkE (b : REar) : Int × Int × Int :=
 if offP 1 4 b.sounds = true then (1,0,7)
 else if offP 1 3 b.alphabets.length = true then (2,0,3)
 else if (alphsE b).2 ≠ 0 then (2,(alphsE b).1,(alphsE b).2)
 else if 5 < b.spellings.length then (3,0,3)
 else if (spelsE b).2 ≠ 0 then (3,(spelsE b).1,(spelsE b).2)
 else (0,0,0)
def givesB (x : RLetr) (n : Nat) : Bool := x.sounds.toNat.testBit n
def letrOf (l : List RLetr) (c : Nat) : Option RLetr := l.find? fun y => decide (y.c = c)
def canHear (l : List RLetr) : List Nat → List Nat → Bool
 | [],h => h.isEmpty
 | c :: t,h => match letrOf l c with
  | none => false
  | some x => (x.silent && canHear l t h) || (match h with | [] => false | r :: h' => givesB x r && canHear l t h')
def stringsL (l : List RLetr) (k : Nat) : List Nat → List (List Nat)
 | [] => [[]]
 | c :: t => match letrOf l c with
  | none => []
  | some x => (if x.silent = true then stringsL l k t else []) ++ (List.range k).flatMap fun n => if givesB x n = true then (stringsL l k t).map (n :: ·) else []
def idxC (l : List RLetr) (c : Nat) : Int := idxL (fun y => decide (y.c = c)) l
def orderL (l : List RLetr) : List Nat → List Nat → Int
 | a :: s,b :: t => if idxC l a - idxC l b ≠ 0 then idxC l a - idxC l b else orderL l s t
 | [],[] => 0
 | [],_ :: _ => -1
 | _ :: _,[] => 1
def pickT (l : List RLetr) (s t : Option (List Nat)) : Option (List Nat) := match t with
 | none => s
 | some t => match s with
  | none => some t
  | some s => if orderL l t s < 0 then some t else some s
def headT (x : RLetr) (f : List Nat → Option (List Nat)) : List Nat → Option (List Nat)
 | [] => none
 | r :: h => if givesB x r = true then f h else none
def spellD (l : List RLetr) : Nat → List Nat → Option (List Nat)
 | 0,h => if h.isEmpty = true then some [] else none
 | m + 1,h => l.findSome? fun x => (pickT l (if x.silent = true then spellD l m h else none) (headT x (spellD l m) h)).map (x.c :: ·)
def spellT (l : List RLetr) (h : List Nat) : Option (List Nat) := [1,2,3,4,5].findSome? fun m => spellD l m h
theorem mem_strings {l : List RLetr} {k : Nat} : ∀ {t h : List Nat},canHear l t h = true → (∀ n ∈ h,n < k) → h ∈ stringsL l k t
 | [],h,hc,_ => by
  simp [canHear] at hc
  simp [stringsL,hc]
 | c :: t,h,hc,hk => by
  rw [canHear] at hc
  rw [stringsL]
  cases e : letrOf l c with
  | none => rw [e] at hc; simp at hc
  | some x =>
   rw [e] at hc
   simp only [Bool.or_eq_true,Bool.and_eq_true] at hc
   rcases hc with ⟨h1,h2⟩ | hc
   ·have := mem_strings h2 hk
    simp [h1,this]
   ·cases h with
    | nil => simp at hc
    | cons r h' =>
     simp only [Bool.and_eq_true] at hc
     have := mem_strings hc.2 fun n hn => hk n (List.mem_cons_of_mem _ hn)
     refine List.mem_append_right _ (List.mem_flatMap.2 ⟨r,List.mem_range.2 (hk r List.mem_cons_self),?_⟩)
     rw [if_pos hc.1]
     exact List.mem_map.2 ⟨h',this,rfl⟩
def distinctL (l : List RLetr) : Prop := ∀ x ∈ l,letrOf l x.c = some x
theorem pickT_or {l : List RLetr} {s t : Option (List Nat)} {r : List Nat} (h : pickT l s t = some r) : s = some r ∨ t = some r := by
 unfold pickT at h
 cases t with
 | none => exact Or.inl h
 | some t =>
  cases s with
  | none => exact Or.inr h
  | some s =>
   dsimp only at h
   split at h
   ·exact Or.inr h
   ·exact Or.inl h
theorem spellD_hear {l : List RLetr} (hl : distinctL l) : ∀ {m : Nat} {h t : List Nat},spellD l m h = some t → t.length = m ∧ (∀ c ∈ t,∃ x ∈ l,x.c = c) ∧ canHear l t h = true
 | 0,h,t,e => by
  rw [spellD] at e
  split at e
  ·rename_i hh
   cases e
   exact ⟨rfl,by simp,by simp only [canHear]; exact hh⟩
  ·cases e
 | m + 1,h,t,e => by
  rw [spellD] at e
  obtain ⟨x,hx,e⟩ := List.exists_of_findSome?_eq_some e
  cases hp : pickT l (if x.silent = true then spellD l m h else none) (headT x (spellD l m) h) with
  | none => rw [hp] at e; cases e
  | some t' =>
   rw [hp] at e
   cases e
   rcases pickT_or hp with h1 | h1
   ·split at h1
    ·rename_i hs
     obtain ⟨a1,a2,a3⟩ := spellD_hear hl h1
     refine ⟨by simp [a1],?_,?_⟩
     ·intro c hc
      rcases List.mem_cons.1 hc with rfl | hc
      ·exact ⟨x,hx,rfl⟩
      ·exact a2 c hc
     ·rw [canHear,hl x hx]
      simp [hs,a3]
    ·cases h1
   ·cases h with
    | nil => cases h1
    | cons r h' =>
     rw [headT] at h1
     split at h1
     ·rename_i hg
      obtain ⟨a1,a2,a3⟩ := spellD_hear hl h1
      refine ⟨by simp [a1],?_,?_⟩
      ·intro c hc
       rcases List.mem_cons.1 hc with rfl | hc
       ·exact ⟨x,hx,rfl⟩
       ·exact a2 c hc
      ·rw [canHear,hl x hx]
       simp [hg,a3]
     ·cases h1
theorem spellT_hear {l : List RLetr} (hl : distinctL l) {h t : List Nat} (e : spellT l h = some t) : 1 ≤ t.length ∧ t.length ≤ 5 ∧ (∀ c ∈ t,∃ x ∈ l,x.c = c) ∧ canHear l t h = true := by
 obtain ⟨m,hm,e⟩ := List.exists_of_findSome?_eq_some e
 obtain ⟨a1,a2,a3⟩ := spellD_hear hl e
 simp at hm
 exact ⟨by omega,by omega,a2,a3⟩
theorem letrsE_distinct {k : Nat} {l : List RLetr} (h : (letrsE k l).2 = 0) : distinctL l ∧ ∀ x ∈ l,97 ≤ x.c ∧ x.c ≤ 122 := by
 have h1 := failFrom_zero.1 h
 have h2 : ∀ i (hi : i < l.length),(97 ≤ (l[i]).c ∧ (l[i]).c ≤ 122) ∧ ((l.take i).any (fun y => decide (y.c = (l[i]).c))) = false := by
  intro i hi
  have := h1 i hi
  rw [Nat.zero_add] at this
  unfold letrE at this
  split at this
  ·cases this
  ·rename_i h3
   split at this
   ·cases this
   ·rename_i h4
    simp [offP] at h3
    exact ⟨by omega,by simpa using h4⟩
 refine ⟨fun x hx => ?_,fun x hx => ?_⟩
 ·obtain ⟨i,hi,rfl⟩ := List.getElem_of_mem hx
  have h3 := (h2 i hi).2
  unfold letrOf
  rw [List.find?_eq_some_iff_append]
  refine ⟨by simp,l.take i,l.drop (i + 1),by rw [← List.drop_eq_getElem_cons hi]; exact (List.take_append_drop i l).symm,fun a ha => ?_⟩
  rw [List.any_eq_false] at h3
  simpa using h3 a ha
 ·obtain ⟨i,hi,rfl⟩ := List.getElem_of_mem hx
  exact (h2 i hi).1
def spanR (r : Int × Int) : AV := .agg [.int .i64 r.1,.int .i64 r.2]
theorem ixSpanR (l : List (Int × Int)) (i : Int) (K : AV → Prop) : VIdx (l.map spanR) i K ↔ (0 ≤ i ∧ i.toNat < l.length) ∧ K (.agg [.int .i64 (l[i.toNat]!).1,.int .i64 (l[i.toNat]!).2]) := VIdx_map spanR l i K
theorem ixPart (l : List RPart) (i : Int) (K : AV → Prop) : VIdx (l.map partA) i K ↔ (0 ≤ i ∧ i.toNat < l.length) ∧ K (.agg [.slice 1 ((l[i.toNat]!).words.map AV.str),.int .i64 (l[i.toNat]!).lo,.int .i64 (l[i.toNat]!).hi]) := VIdx_map partA l i K
theorem ixForm (l : List RForm) (i : Int) (K : AV → Prop) : VIdx (l.map formA) i K ↔ (0 ≤ i ∧ i.toNat < l.length) ∧ K (.agg [.str (l[i.toNat]!).name,.slice 3 ((l[i.toNat]!).parts.map partA)]) := VIdx_map formA l i K
theorem ixLetr (l : List RLetr) (i : Int) (K : AV → Prop) : VIdx (l.map letrA) i K ↔ (0 ≤ i ∧ i.toNat < l.length) ∧ K (.agg [.int .u8 (l[i.toNat]!).c,.int .i64 (l[i.toNat]!).sounds,.bool (l[i.toNat]!).silent]) := VIdx_map letrA l i K
theorem ixAlph (l : List RAlph) (i : Int) (K : AV → Prop) : VIdx (l.map alphA) i K ↔ (0 ≤ i ∧ i.toNat < l.length) ∧ K (.agg [.str (l[i.toNat]!).name,.slice 3 ((l[i.toNat]!).letters.map letrA)]) := VIdx_map alphA l i K
theorem ixSpel (l : List RSpel) (i : Int) (K : AV → Prop) : VIdx (l.map spelA) i K ↔ (0 ≤ i ∧ i.toNat < l.length) ∧ K (.agg [.int .i64 (l[i.toNat]!).alphabet,.str (l[i.toNat]!).text]) := VIdx_map spelA l i K
theorem VX : type_of% (And.intro VP <| And.intro @ixSpanR <| And.intro @ixPart <| And.intro @ixForm <| And.intro @ixLetr <| And.intro @ixAlph @ixSpel) := And.intro VP <| And.intro @ixSpanR <| And.intro @ixPart <| And.intro @ixForm <| And.intro @ixLetr <| And.intro @ixAlph @ixSpel
end Go.Proofs.YtdmejgfcaacdoaaGreat.Abs
