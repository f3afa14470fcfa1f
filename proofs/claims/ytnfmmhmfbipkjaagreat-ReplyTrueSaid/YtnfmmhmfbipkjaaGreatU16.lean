/- Lemmas for the statements of this seat (U16): they hold without conditions beyond those that each one states. -/
import Derived.Test.YtnfmmhmfbipkjaaGreatU15
import Derived.Test.YtnfmmhmfbipkjaaGreatU2
import Derived.Test.YtnfmmhmfbipkjaaGreatU14
/- Laws: a harbour that is so many days later (for ShipMoved). -/
namespace Go.Proofs.YtnfmmhmfbipkjaaGreat.Abs
set_option linter.unusedSimpArgs false
open Go Go.RowKit Go.Proofs
theorem map_at {α β : Type} [Inhabited α] [Inhabited β] {l : List α} (f : α → β) {i : Nat} (hi : i < l.length) : (l.map f)[i]! = f (l[i]!) := by
 rw [getD_any (by simpa using hi),getD_any hi,List.getElem_map]
section
variable {h : RHarb} (hh : HOk h) {d : Int} (hd : 0 ≤ d)
include hh hd
end
end Go.Proofs.YtnfmmhmfbipkjaaGreat.Abs
/- Laws: what was,and the reports that it makes (for ShipTrue). -/
namespace Go.Proofs.YtnfmmhmfbipkjaaGreat.Abs
set_option linter.unusedSimpArgs false
open Go Go.RowKit Go.Proofs
def cutH (h : RHarb) : RHarb := { h with reports := [] }
def turnN (l : List Nat) (n : Nat) : Nat := if l.length = 0 then 0 else l[n % l.length]!
def realF (h : RHarb) (n : Nat) : List Fate := (fleetsR h.ships h.lost)[n % (fleetsR h.ships h.lost).length]!
def realB (h : RHarb) (f : List Fate) (ys : List Nat) (k : Nat) : Int := if (couldL (cutH h) f k [] h.ships.length).length = 0 then -1 else (couldL (cutH h) f k [] h.ships.length)[turnN ys k % (couldL (cutH h) f k [] h.ships.length).length]!
def realTo (h : RHarb) (f : List Fate) (ys : List Nat) (n : Nat) : List Int := (List.range n).map (realB h f ys)
theorem realTo_succ (h : RHarb) (f : List Fate) (ys : List Nat) (n : Nat) : realTo h f ys (n + 1) = realTo h f ys n ++ [realB h f ys n] := by
 unfold realTo; rw [List.range_succ,List.map_append]; rfl
def idxTo (by_ : List Int) (n : Nat) : List Nat := (List.range n).filter fun i => decide (0 ≤ by_[i]!)
def ownTo (by_ : List Int) (n : Nat) : List Int := (idxTo by_ n).map fun i => by_[i]!
def letTo (h : RHarb) (by_ : List Int) (n : Nat) : List RLet := (idxTo by_ n).map fun i => h.letters[i]!
def placeTo (by_ : List Int) (n : Nat) : List Int := (List.range by_.length).map fun i => if i < n then ((ownTo by_ i).length : Int) else 0
theorem idxTo_succ (by_ : List Int) (n : Nat) : idxTo by_ (n + 1) = if 0 ≤ by_[n]! then idxTo by_ n ++ [n] else idxTo by_ n := by
 unfold idxTo
 rw [List.range_succ,List.filter_append,List.filter_cons]
 by_cases q : 0 ≤ by_[n]!
 ·rw [if_pos (decide_eq_true q),if_pos q]; rfl
 ·rw [if_neg (by rw [decide_eq_true_eq]; exact q),if_neg q]; exact List.append_nil _
theorem ownTo_succ (by_ : List Int) (n : Nat) : ownTo by_ (n + 1) = if 0 ≤ by_[n]! then ownTo by_ n ++ [by_[n]!] else ownTo by_ n := by
 unfold ownTo; rw [idxTo_succ]; split <;> simp
theorem letTo_succ (h : RHarb) (by_ : List Int) (n : Nat) : letTo h by_ (n + 1) = if 0 ≤ by_[n]! then letTo h by_ n ++ [h.letters[n]!] else letTo h by_ n := by
 unfold letTo; rw [idxTo_succ]; split <;> simp
theorem idxTo_length (by_ : List Int) (n : Nat) : (idxTo by_ n).length ≤ n := by
 unfold idxTo; exact Nat.le_trans (List.length_filter_le _ _) (by simp)
theorem ownTo_length (by_ : List Int) (n : Nat) : (ownTo by_ n).length ≤ n := by unfold ownTo; rw [List.length_map]; exact idxTo_length _ _
theorem letTo_length (h : RHarb) (by_ : List Int) (n : Nat) : (letTo h by_ n).length = (idxTo by_ n).length := by unfold letTo; rw [List.length_map]
def dated1 (r : RRep) (seen day : Int) : RRep := if r.kind = seen ∧ 0 ≤ day then { r with day := day } else r
theorem dated1_kind (r : RRep) (a b : Int) : (dated1 r a b).kind = r.kind := by unfold dated1; split <;> rfl
theorem dated1_of (r : RRep) (a b : Int) : (dated1 r a b).of_ = r.of_ := by unfold dated1; split <;> rfl
theorem dated1_port (r : RRep) (a b : Int) : (dated1 r a b).port = r.port := by unfold dated1; split <;> rfl
def toldR (h : RHarb) (f : List Fate) (by_ : List Int) (r : RRep) : Option RRep :=
 if r.kind < 2 then (if soB (dated1 r 0 (dayR h f r.of_.toNat r.port)) (dayR h f r.of_.toNat r.port) = true then some (dated1 r 0 (dayR h f r.of_.toNat r.port)) else none)
 else if by_[r.of_.toNat]! < 0 then none
 else (if soB (dated1 r 2 (dayR h f (by_[r.of_.toNat]!).toNat (h.letters[r.of_.toNat]!).port)) (dayR h f (by_[r.of_.toNat]!).toNat (h.letters[r.of_.toNat]!).port) = true
  then some { dated1 r 2 (dayR h f (by_[r.of_.toNat]!).toNat (h.letters[r.of_.toNat]!).port) with of_ := ((ownTo by_ r.of_.toNat).length : Int) } else none)
def repTo (h : RHarb) (f : List Fate) (by_ : List Int) (n : Nat) : List RRep := (h.reports.take n).filterMap (toldR h f by_)
theorem repTo_succ {h : RHarb} {f : List Fate} {by_ : List Int} {n : Nat} (hn : n < h.reports.length) : repTo h f by_ (n + 1) = match toldR h f by_ (h.reports[n]!) with | some r => repTo h f by_ n ++ [r] | none => repTo h f by_ n := by
 unfold repTo
 rw [List.take_succ_eq_append_getElem hn,List.filterMap_append,getD_any hn]
 cases e : toldR h f by_ h.reports[n] <;> simp [e]
theorem repTo_length (h : RHarb) (f : List Fate) (by_ : List Int) (n : Nat) : (repTo h f by_ n).length ≤ n := by
 unfold repTo
 exact Nat.le_trans (List.length_filterMap_le _ _) (List.length_take_le _ _)
def toldH (h : RHarb) (f : List Fate) (by_ : List Int) : RHarb := { h with letters := letTo h by_ by_.length,reports := repTo h f by_ h.reports.length }
structure Went (h : RHarb) (f : List Fate) (by_ : List Int) : Prop where
 f : f ∈ fleetsR h.ships h.lost
 n : by_.length = h.letters.length
 s : ∀ k,k < by_.length → by_[k]! = -1 ∨ ∃ s : Nat,by_[k]! = s ∧ s < h.ships.length ∧ shipB h k s = true
theorem repErr_zero {ports ships letters : Int} {r : RRep} : repErr ports ships letters r = 0 ↔ (0 ≤ r.kind ∧ r.kind ≤ 3) ∧ (0 ≤ r.of_ ∧ r.of_ ≤ (if r.kind < 2 then ships else letters) - 1) ∧ (0 ≤ r.port ∧ r.port ≤ ports - 1) ∧ (2 ≤ r.kind → r.port = 0) ∧ 0 ≤ r.day ∧ r.day ≤ 60 := by
 unfold repErr
 generalize (if r.kind < 2 then ships else letters) = M
 constructor
 ·intro e
  split at e
  ·cases e
  ·rename_i h1
   rw [Bool.not_eq_true,offP_false] at h1
   split at e
   ·cases e
   ·rename_i h2
    rw [Bool.not_eq_true,Bool.or_eq_false_iff,offP_false,offP_false] at h2
    split at e
    ·cases e
    ·rename_i h3
     split at e
     ·cases e
     ·rename_i h4
      rw [Bool.not_eq_true,offP_false] at h4
      refine ⟨h1,h2.1,h2.2,fun q => ?_,h4⟩
      by_cases w : r.port = 0
      ·exact w
      ·exact absurd ⟨q,w⟩ h3
 ·rintro ⟨h1,h2,h3,h4,h5⟩
  rw [if_neg (by rw [Bool.not_eq_true,offP_false]; exact h1),if_neg (by rw [Bool.not_eq_true,Bool.or_eq_false_iff,offP_false,offP_false]; exact ⟨h2,h3⟩),if_neg (fun w => w.2 (h4 w.1)),if_neg (by rw [Bool.not_eq_true,offP_false]; exact h5)]
theorem lettersE_zero {h : RHarb} : (lettersE h).2 = 0 ↔ ∀ x ∈ h.letters,letErr h.ports h.ships x = 0 := by
 unfold lettersE
 rw [failFrom_zero]
 constructor
 ·intro q x hx
  obtain ⟨i,hi,rfl⟩ := List.mem_iff_getElem.1 hx
  exact q i hi
 ·intro q i hi
  exact q _ (List.getElem_mem hi)
theorem idx_at {by_ : List Int} {n i : Nat} (hi : i < n) (q : 0 ≤ by_[i]!) : (idxTo by_ i).length < (idxTo by_ n).length ∧ (idxTo by_ n)[(idxTo by_ i).length]! = i := by
 have e : idxTo by_ n = idxTo by_ i ++ i :: ((List.range' (i + 1) (n - (i + 1))).filter fun i => decide (0 ≤ by_[i]!)) := by
  unfold idxTo
  have : List.range n = List.range i ++ i :: List.range' (i + 1) (n - (i + 1)) := by
   obtain ⟨k,rfl⟩ : ∃ k,n = i + (k + 1) := ⟨n - (i + 1),by omega⟩
   rw [show i + (k + 1) - (i + 1) = k by omega,List.range_eq_range',List.range_eq_range',← List.range'_append_1,Nat.zero_add,List.range'_succ]
  rw [this,List.filter_append,List.filter_cons,if_pos (decide_eq_true q)]
 have hl : (idxTo by_ i).length < (idxTo by_ n).length := by rw [e]; simp
 refine ⟨hl,?_⟩
 rw [getD_any hl]
 simp only [e]
 rw [List.getElem_append_right (Nat.le_refl _)]
 simp
theorem mem_idx {by_ : List Int} {n i : Nat} : i ∈ idxTo by_ n ↔ i < n ∧ 0 ≤ by_[i]! := by unfold idxTo; simp
theorem idx_get {by_ : List Int} {n j : Nat} (hj : j < (idxTo by_ n).length) : (idxTo by_ n)[j]! < n ∧ 0 ≤ by_[(idxTo by_ n)[j]!]! := by
 have : (idxTo by_ n)[j]! ∈ idxTo by_ n := by rw [getD_any hj]; exact List.getElem_mem hj
 exact mem_idx.1 this
theorem dated1_day {r : RRep} {a d : Int} (h1 : 0 ≤ r.day ∧ r.day ≤ 60) (h2 : d ≤ 60) : 0 ≤ (dated1 r a d).day ∧ (dated1 r a d).day ≤ 60 := by
 unfold dated1; split
 ·rename_i q; exact ⟨q.2,h2⟩
 ·exact h1
theorem went_ship {h : RHarb} (_e : (checkH h).2.2 = 0) {f : List Fate} {by_ : List Int} (w : Went h f by_) {k : Nat} (hk : k < by_.length) (q : 0 ≤ by_[k]!) : (by_[k]!).toNat < h.ships.length ∧ shipB h k (by_[k]!).toNat = true ∧ by_[k]! = ((by_[k]!).toNat : Int) := by
 rcases w.s k hk with h1 | ⟨s,h1,h2,h3⟩
 ·omega
 ·rw [h1]; exact ⟨h2,h3,rfl⟩
theorem rep_mem {h : RHarb} (_e : (checkH h).2.2 = 0) {f : List Fate} {by_ : List Int} (_w : Went h f by_) {r' : RRep} (q : r' ∈ (toldH h f by_).reports) : ∃ r ∈ h.reports,toldR h f by_ r = some r' := by
 have q : r' ∈ (h.reports.take h.reports.length).filterMap (toldR h f by_) := q
 rw [List.take_length] at q
 exact List.mem_filterMap.1 q
theorem told_letter {h : RHarb} (_e : (checkH h).2.2 = 0) {f : List Fate} {by_ : List Int} (_w : Went h f by_) {j : Nat} (hj : j < (idxTo by_ by_.length).length) : (toldH h f by_).letters[j]! = h.letters[(idxTo by_ by_.length)[j]!]! := map_at _ hj
section
variable {h : RHarb} (e : (checkH h).2.2 = 0) {f : List Fate} {by_ : List Int} (w : Went h f by_)
include e w
theorem went_fok : FOk h f := fleets_fok (hok_check e) w.f
theorem went_day {s : Nat} (hs : s < h.ships.length) (port : Int) : -1 ≤ dayR h f s port ∧ dayR h f s port ≤ 43 := dayR_le (hok_check e) (went_fok e w) hs port
theorem told_is {r r' : RRep} (hr : r ∈ h.reports) (q : toldR h f by_ r = some r') : r'.kind = r.kind ∧ r'.port = r.port ∧ (0 ≤ r'.day ∧ r'.day ≤ 60) ∧
  ((r.kind < 2 ∧ r'.of_ = r.of_ ∧ soB r' (dayR h f r.of_.toNat r.port) = true) ∨
   (2 ≤ r.kind ∧ r.of_.toNat < by_.length ∧ 0 ≤ by_[r.of_.toNat]! ∧ r'.of_ = ((idxTo by_ r.of_.toNat).length : Int) ∧ soB r' (dayR h f (by_[r.of_.toNat]!).toNat (h.letters[r.of_.toNat]!).port) = true)) := by
 have h0 := repErr_zero.1 (reportsE_zero.1 (checkH_parts e).2.2.2.2.2.2 r hr)
 unfold toldR at q
 by_cases k : r.kind < 2
 ·rw [if_pos k] at q
  rw [if_pos k] at h0
  have hd := went_day e w (s := r.of_.toNat) (by omega) r.port
  split at q
  ·rename_i q2
   injection q with q
   subst q
   exact ⟨dated1_kind _ _ _,dated1_port _ _ _,dated1_day h0.2.2.2.2 (by omega),.inl ⟨k,dated1_of _ _ _,q2⟩⟩
  ·cases q
 ·rw [if_neg k] at q
  rw [if_neg k] at h0
  have hn := w.n
  split at q
  ·cases q
  ·rename_i k2
   have hs := went_ship e w (k := r.of_.toNat) (by omega) (by omega)
   have hd := went_day e w hs.1 (h.letters[r.of_.toNat]!).port
   split at q
   ·rename_i q2
    injection q with q
    subst q
    refine ⟨dated1_kind _ _ _,dated1_port _ _ _,dated1_day h0.2.2.2.2 (by omega),.inr ⟨by omega,by omega,by omega,?_,q2⟩⟩
    show ((ownTo by_ r.of_.toNat).length : Int) = _
    unfold ownTo; rw [List.length_map]
   ·cases q
theorem told_check : (checkH (toldH h f by_)).2.2 = 0 := by
 obtain ⟨e1,e2,e3,e4,e5,e6,e7⟩ := checkH_parts e
 have hn := w.n
 have hl : (toldH h f by_).letters.length = (idxTo by_ by_.length).length := letTo_length h by_ by_.length
 refine checkH_of ⟨e1,e2,e3,?_,?_,?_,?_⟩
 ·rw [hl]; have := idxTo_length by_ by_.length; omega
 ·rw [lettersE_zero] at e5 ⊢
  intro x hx
  obtain ⟨i,hi,rfl⟩ := List.mem_map.1 hx
  have hi := (mem_idx.1 hi).1
  refine e5 _ ?_
  rw [getD_any (by omega)]; exact List.getElem_mem _
 ·exact Nat.le_trans (repTo_length h f by_ _) e6
 ·rw [reportsE_zero] at e7 ⊢
  intro r' hr'
  obtain ⟨r,hr,q⟩ := rep_mem e w hr'
  have h0 := repErr_zero.1 (e7 r hr)
  obtain ⟨t1,t2,t3,t4⟩ := told_is e w hr q
  rw [repErr_zero,t1,t2]
  refine ⟨h0.1,?_,h0.2.2.1,h0.2.2.2.1,t3⟩
  rcases t4 with ⟨k,t4,_⟩ | ⟨k,t4,t5,t6,_⟩
  ·rw [t4,if_pos k]; rw [if_pos k] at h0; exact h0.2.1
  ·rw [t6,if_neg (by omega),hl]
   have := (idx_at t4 t5).1
   omega
theorem told_can {j : Nat} (hj : j < (idxTo by_ by_.length).length) : canB (toldH h f by_) f j [] (by_[(idxTo by_ by_.length)[j]!]!).toNat = true := by
 obtain ⟨i1,i2⟩ := idx_get hj
 obtain ⟨s1,s2,s3⟩ := went_ship e w i1 i2
 unfold canB
 rw [Bool.and_eq_true,reps_list]
 constructor
 ·unfold shipB at s2 ⊢
  rw [told_letter e w hj]
  exact s2
 ·rw [List.all_eq_true]
  intro r' hr'
  obtain ⟨r,hr,q⟩ := rep_mem e w hr'
  obtain ⟨t1,t2,t3,t4⟩ := told_is e w hr q
  rw [Bool.or_eq_true,Bool.not_eq_true']
  by_cases k : 2 ≤ r'.kind ∧ r'.of_ = (j : Int)
  ·right
   rcases t4 with ⟨k2,_⟩ | ⟨_,t4,t5,t6,t7⟩
   ·omega
   ·obtain ⟨k3,k4⟩ := idx_at t4 t5
    have hjj : j = (idxTo by_ r.of_.toNat).length := by omega
    rw [told_letter e w hj,hjj,k4]
    exact t7
  ·left
   rw [← Bool.not_eq_true,Bool.and_eq_true,decide_eq_true_eq,decide_eq_true_eq]
   exact k
theorem told_true : trueB (toldH h f by_) [] f = true := by
 unfold trueB goB
 rw [Bool.and_eq_true]
 constructor
 ·rw [said_list,List.all_eq_true]
  intro r' hr'
  obtain ⟨r,hr,q⟩ := rep_mem e w hr'
  obtain ⟨t1,t2,t3,t4⟩ := told_is e w hr q
  rw [Bool.or_eq_true,Bool.not_eq_true']
  rcases t4 with ⟨k,t4,t5⟩ | ⟨k,_⟩
  ·right; rw [t4,t2]; exact t5
  ·left; exact decide_eq_false (by omega)
 ·rw [List.all_eq_true]
  intro j hj
  have hj : j < (idxTo by_ by_.length).length := by have := List.mem_range.1 hj; rw [show (toldH h f by_).letters.length = (idxTo by_ by_.length).length from letTo_length h by_ by_.length] at this; exact this
  obtain ⟨i1,i2⟩ := idx_get hj
  refine decide_eq_true (List.length_pos_of_mem (mem_could.2 ⟨_,rfl,(went_ship e w i1 i2).1,told_can e w hj⟩))
theorem told_mem : truOf (toldH h f by_) [] f ∈ truthsR (toldH h f by_) [] := truOf_mem (h := toldH h f by_) w.f (told_true e w)
theorem told_own {j : Nat} (hj : j < (idxTo by_ by_.length).length) : (ownTo by_ by_.length)[j]! ∈ (truOf (toldH h f by_) [] f).by_[j]! ∧ (ownTo by_ by_.length)[j]! = (((ownTo by_ by_.length)[j]!).toNat : Int) ∧ ((ownTo by_ by_.length)[j]!).toNat < h.ships.length := by
 have ho : (ownTo by_ by_.length)[j]! = by_[(idxTo by_ by_.length)[j]!]! := map_at _ hj
 obtain ⟨i1,i2⟩ := idx_get hj
 obtain ⟨s1,s2,s3⟩ := went_ship e w i1 i2
 rw [truths_at (told_mem e w) (by rw [show (toldH h f by_).letters.length = (idxTo by_ by_.length).length from letTo_length h by_ by_.length]; exact hj),ho]
 exact ⟨mem_could.2 ⟨_,s3,s1,told_can e w hj⟩,s3,s1⟩
end
/-! ### What was -/
theorem lostN_zero_of : ∀ {l : List RShip} {f : List Fate},(∀ s,s < l.length → s < f.length → ((l[s]!).calls.length : Int) ≤ (f[s]!).made) → lostN l f = 0
 | [],f,_ => by cases f <;> rfl
 | _ :: _,[],_ => rfl
 | a :: l,x :: f,q => by
  have h0 := q 0 (by simp) (by simp)
  have h1 := lostN_zero_of (l := l) (f := f) fun s h1 h2 => by
   have := q (s + 1) (by simpa using h1) (by simpa using h2)
   simpa using this
  simp only [lostN,h1]
  have h0 : (a.calls.length : Int) ≤ x.made := h0
  unfold sinksI
  rw [if_neg (by omega)]
  rfl
theorem fok_best : ∀ (l : List RShip),(∀ s ∈ l,s.lo ≤ s.hi) → fokB l (l.map fun s => Fate.mk s.lo s.calls.length) = true
 | [],_ => rfl
 | s :: l,q => by
  have := q s (by simp)
  simp only [List.map_cons,fokB,Bool.and_eq_true,decide_eq_true_eq]
  exact ⟨⟨by omega,by omega⟩,fok_best l fun x hx => q x (List.mem_cons_of_mem _ hx)⟩
theorem fleets_pos {h : RHarb} (hh : HOk h) : 0 < (fleetsR h.ships h.lost).length := by
 refine List.length_pos_of_mem (a := h.ships.map fun s => Fate.mk s.lo s.calls.length) (mem_fleetsR.2 ⟨fok_best _ fun s hs => ?_,?_⟩)
 ·obtain ⟨i,hi,rfl⟩ := List.mem_iff_getElem.1 hs
  have := (hh.ship i hi).late
  rw [getD_any hi] at this
  exact this.2.1
 ·rw [lostN_zero_of]
  ·exact hh.l.1
  ·intro s h1 h2
   rw [map_at (f := fun s : RShip => Fate.mk s.lo s.calls.length) h1]
   exact Int.le_refl _
theorem real_went {h : RHarb} (e : (checkH h).2.2 = 0) (n : Nat) (ys : List Nat) : Went h (realF h n) (realTo h (realF h n) ys h.letters.length) := by
 have hh := hok_check e
 have hf := fleets_pos hh
 refine ⟨?_,by simp [realTo],fun k hk => ?_⟩
 ·unfold realF
  have hm : n % (fleetsR h.ships h.lost).length < (fleetsR h.ships h.lost).length := Nat.mod_lt _ hf
  rw [getD_any hm]; exact List.getElem_mem hm
 ·have hk : k < h.letters.length := by simpa [realTo] using hk
  have e1 : (realTo h (realF h n) ys h.letters.length)[k]! = realB h (realF h n) ys k := by
   unfold realTo
   rw [getD_any (by simpa using hk)]
   simp
  rw [e1]
  unfold realB
  split
  ·exact .inl rfl
  ·rename_i q
   right
   have hm : turnN ys k % (couldL (cutH h) (realF h n) k [] h.ships.length).length < (couldL (cutH h) (realF h n) k [] h.ships.length).length := Nat.mod_lt _ (by omega)
   have hx : (couldL (cutH h) (realF h n) k [] h.ships.length)[turnN ys k % (couldL (cutH h) (realF h n) k [] h.ships.length).length]! ∈ couldL (cutH h) (realF h n) k [] h.ships.length := by rw [getD_any hm]; exact List.getElem_mem hm
   obtain ⟨s,h1,h2,h3⟩ := mem_could.1 hx
   unfold canB at h3
   rw [Bool.and_eq_true] at h3
   exact ⟨s,h1,h2,h3.1⟩
end Go.Proofs.YtnfmmhmfbipkjaaGreat.Abs
/- Contracts: what was (Real),by turns. -/
namespace Go.Proofs.YtnfmmhmfbipkjaaGreat.Abs
set_option linter.unusedSimpArgs false
set_option maxHeartbeats 4000000
set_option maxRecDepth 100000
open Go Go.RowKit Go.Proofs
def u8s (l : List Nat) : List AV := l.map fun (n : Nat) => AV.int .u8 n
theorem ixU8 (l : List Nat) (i : Int) (K : AV → Prop) : VIdx (u8s l) i K ↔ (0 ≤ i ∧ i.toNat < l.length) ∧ K (.int .u8 (l[i.toNat]! : Nat)) := VIdx_map (fun (n : Nat) => AV.int .u8 n) l i K
theorem u8s_length (l : List Nat) : (u8s l).length = l.length := List.length_map _
theorem turn_c (l : List Nat) (hl : ∀ x ∈ l,x < 256) (n : Nat) : PCall Tryz.prog 122 [.slice 1 (u8s l),.int .i64 n] (.int .i64 (turnN l n)) := by
 intro m
 have e0 : turnN l n = if l.length = 0 then 0 else l[n % l.length]! := rfl
 have hat := fun (q : 0 < l.length) => hl (l[n % l.length]!) (by rw [getD_any (Nat.mod_lt _ q)]; exact List.getElem_mem _)
 have hm := fun (q : 0 < l.length) => Nat.mod_lt n q
 have he : ((n : Int) % (l.length : Int)) = ((n % l.length : Nat) : Int) := (Int.natCast_emod n l.length).symm
 (refine acall_intro (E := envC (modeAt [] []) false []) (envCOk _ _ _) rfl Tryz.func122 rfl Tryz.call122 (by kernel_rfl) (by simp [Tryz.ntmps122]) ?_; simp only [Tryz.f122];  simp(maxSteps:=9^9)only[↓VX,VQ,seval,Int.reduceEq,↓ixU8,u8s_length,he])
 repeat'(first|intro _|apply And.intro)
 all_goals try first|omega|(simp only[LL];omega)|exact nlC (by decide) _|exact nbC rfl
 all_goals first
  | (rw [e0,if_pos (by omega)]; rfl; done)
  | (rw [e0,if_neg (by omega)]; done)
  | (have := hat (by omega); omega)
theorem cut_ok {h : RHarb} (hh : HOk h) : HOk (cutH h) := ⟨hh.p,hh.l,hh.n,hh.ship,hh.nl,hh.letter,Nat.zero_le _,fun _ hi => absurd hi (Nat.not_lt_zero _)⟩
theorem cut_fok {h : RHarb} {f : List Fate} (hf : FOk h f) : FOk (cutH h) f := ⟨hf.n,hf.late,hf.made⟩
theorem natModL (a b : Nat) : ((a : Int) % (b : Int)) = ((a % b : Nat) : Int) := (Int.natCast_emod a b).symm
theorem real_c (h : RHarb) (hh : HOk h) (n : Nat) (hn : n < 65536) (ys : List Nat) (hy : ∀ x ∈ ys,x < 256) :
  PCall Tryz.prog 81 [harbA h,.agg [.int .u16 n,.slice 1 (u8s ys)]] (.tuple [fatesA (realF h n),ints (realTo h (realF h n) ys h.letters.length)]) := by
 intro m
 have hp := fleets_pos hh
 have hnl := hh.nl
 have a1 := fleet_c (cutH h) (cut_ok hh)
 have hF : fleetsR (cutH h).ships (cutH h).lost = fleetsR h.ships h.lost := rfl
 have hlen := fleets_len hh
 have hmod := natModL n (fleetsR h.ships h.lost).length
 have hlt := Nat.mod_lt n hp
 have hR : realF h n = (fleetsR h.ships h.lost)[n % (fleetsR h.ships h.lost).length]! := rfl
 have hfk : FOk h (realF h n) := by
  rw [hR,getD_any hlt]
  exact fleets_fok hh (List.getElem_mem hlt)
 rw [hF] at a1
 generalize realF h n = f at *
 generalize fleetsR h.ships h.lost = Fs at *
 generalize n % Fs.length = c at *
 have b1 := fun (k : Nat) (hk : k < h.letters.length) => could_c (cutH h) (cut_ok hh) f (cut_fok hfk) k hk []
 have t1 := fun k => turn_c ys hy k
 have hrs := realTo_succ h f ys
 have hrb : ∀ k,realB h f ys k = if (couldL (cutH h) f k [] (cutH h).ships.length).length = 0 then -1 else (couldL (cutH h) f k [] (cutH h).ships.length)[turnN ys k % (couldL (cutH h) f k [] (cutH h).ships.length).length]! := fun k => rfl
 have hcl := fun k => couldL_length (cutH h) f k [] (cutH h).ships.length
 have hns := hh.n
 have hcn : (cutH h).ships.length = h.ships.length := rfl
 generalize (cutH h).ships.length = N at *
 generalize hC : couldL (cutH h) f = C at *
 clear hC hF
 simp only [harbA,harbL,fatesA,fleetsA,ints,cutH,List.map_nil] at *
 (refine acall_intro (E := envC (modeAt [2] []) false []) (envCOk _ _ _) rfl Tryz.func81 rfl Tryz.call81 (by kernel_rfl) (by simp [Tryz.ntmps81]) ?_; simp only [Tryz.f81];  simp(maxSteps:=9^9)only[↓VX,VQ,seval,Int.reduceEq,hmod])
 (refine ACall.pure (a1) ?_; try simp(maxSteps:=9^9)only[↓VX,VQ,seval,GL,hmod,↓ixFates])
 repeat'(first|intro _|apply And.intro)
 all_goals try first|omega|(simp only[LL];omega)|exact nlC (by decide) _|exact nbC rfl
 rw [← hR]
 refine aloop (envCOk _ _ _) (fun k : Nat => ⟨[(2,.loc 2 0),(3,.v (.eptr [.int .u16 n,.slice 1 (u8s ys)])),(7,.v (.slice 2 (f.map fateA))),(8,.v (.slice 1 ((realTo h f ys k).map (AV.int .i64)))),(9,.v (.int .i64 k))],[8],[(2,[.int .i64 h.ports,.int .i64 h.lost,.slice 5 (h.ships.map shipA),.slice 3 (h.letters.map letA),.slice 4 []])],m⟩)
  (fun k => k ≤ h.letters.length) (fun k => h.letters.length - k) 0 (fun _ => rfl) (by simp) (by (simp only [FE,↓FP,seval]); try simp [realTo]) ?_
 intro k hk
 have hrs1 := hrs k
 have hrb1 := hrb k
 have b2 := b1 k
 have t2 := t1 k
 have hcl1 := hcl k
 have hrl : (realTo h f ys k).length = k := by simp [realTo]
 generalize C k [] N = L at *
 simp(maxSteps:=9^9)only[↓VX,VQ,seval]
 repeat'(first|intro _|apply And.intro)
 all_goals try first|omega|(simp only[LL];omega)|exact nlC (by decide) _|exact nbC rfl
 ·have hkl : k < h.letters.length := by omega
  have b3 := b2 hkl
  have hml := natModL (turnN ys k) L.length
  ((refine ACall.pure (b3) ?_; try simp(maxSteps:=9^9)only[↓VX,VQ,seval]); try simp(maxSteps:=9^9)only[↓VX,VQ,seval,GL])
  repeat'(first|intro _|apply And.intro)
  all_goals try first|omega|(simp only[LL];omega)|exact nlC (by decide) _|exact nbC rfl
  ·rw [if_neg (by omega)] at hrb1
   have hlt2 := Nat.mod_lt (turnN ys k) (show 0 < L.length by omega)
   (refine ACall.pure (t2) ?_; try simp(maxSteps:=9^9)only[↓VX,VQ,seval,GL,hml,↓ixZ])
   repeat'(first|intro _|apply And.intro)
   all_goals try first|omega|(simp only[LL];omega)|exact nlC (by decide) _|exact nbC rfl
   (refine ⟨k + 1,by first | omega | (dsimp only; omega),by dsimp only; omega,?_⟩; (simp only [FE,↓FP,seval]); try simp [hrs1,hrb1])
  ·rw [if_pos (by omega)] at hrb1
   (refine ⟨k + 1,by first | omega | (dsimp only; omega),by dsimp only; omega,?_⟩; (simp only [FE,↓FP,seval]); try simp [hrs1,hrb1])
 ·have hkl : k = h.letters.length := by omega
  subst hkl
  rfl
theorem overlay_set4 {l : List AV} {i : Nat} (hi : i < l.length) (x : AV) : overlay l i [x] = l.set i x := by
  unfold overlay
  rw [List.set_eq_take_append_cons_drop,if_pos hi,List.append_assoc]
  rfl
theorem placeTo_get {by_ : List Int} {n j : Nat} (hj : j < (placeTo by_ n).length) : (placeTo by_ n)[j] = if j < n then ((ownTo by_ j).length : Int) else 0 := by simp [placeTo]
theorem placeTo_store {by_ : List Int} {i : Nat} (hi : i < by_.length) : List.take i ((placeTo by_ i).map (AV.int .i64)) ++ [.int .i64 ((ownTo by_ i).length : Nat)] ++ List.drop (i + 1) ((placeTo by_ i).map (AV.int .i64)) = (placeTo by_ (i + 1)).map (AV.int .i64) := by
  show overlay ((placeTo by_ i).map (AV.int .i64)) i [.int .i64 ((ownTo by_ i).length : Nat)] = _
  rw [overlay_set4 (by simpa [placeTo] using hi)]
  refine List.ext_getElem (by simp [placeTo]) fun j h1 h2 => ?_
  have hj : j < by_.length := by simpa [placeTo] using h2
  rw [List.getElem_set]
  simp only [List.getElem_map,placeTo_get]
  by_cases q : i = j
  · subst q; rw [if_pos rfl,if_pos (by omega)]
  · rw [if_neg q]
    by_cases q2 : j < i
    · rw [if_pos q2,if_pos (by omega)]
    · rw [if_neg q2,if_neg (by omega)]
theorem placeTo_zero (by_ : List Int) : (placeTo by_ 0).map (AV.int .i64) = List.replicate by_.length (AV.int .i64 0) := by
  refine List.eq_replicate_iff.2 ⟨by simp [placeTo],fun b hb => ?_⟩
  unfold placeTo at hb
  simp only [List.mem_map,List.mem_range] at hb
  obtain ⟨a,⟨j,_,rfl⟩,rfl⟩ := hb
  rw [if_neg (Nat.not_lt_zero j)]
theorem placeTo_drop {by_ : List Int} {n j : Nat} (hj : j < by_.length) (hn : j < n) : ∃ r,List.drop j ((placeTo by_ n).map (AV.int .i64)) = .int .i64 ((ownTo by_ j).length : Nat) :: r := by
  have hl : j < ((placeTo by_ n).map (AV.int .i64)).length := by simpa [placeTo] using hj
  refine ⟨List.drop (j + 1) ((placeTo by_ n).map (AV.int .i64)),?_⟩
  rw [List.drop_eq_getElem_cons hl]
  simp only [List.getElem_map,placeTo_get,if_pos hn]
theorem told_c (h : RHarb) (ec : (checkH h).2.2 = 0) (f : List Fate) (by_ : List Int) (w : Went h f by_) :
    PCall Tryz.prog 82 [harbA h,fatesA f,ints by_] (.tuple [harbA (toldH h f by_),ints (ownTo by_ by_.length)]) := by
  intro m
  have hh := hok_check ec
  have hnl := hh.nl
  have hnr := hh.nr
  have hns := hh.n
  have hbn := w.n
  have hfk := went_fok ec w
  have hfn := hfk.n
  simp only [harbA,harbL,fatesA,ints] at *
  (refine acall_intro (E := envC (modeAt [6,8,13,21] []) false [8]) (envCOk _ _ _) rfl Tryz.func82 rfl Tryz.call82 (by kernel_rfl) (by simp [Tryz.ntmps82]) ?_; simp only [Tryz.f82];  simp(maxSteps:=9^9)only[↓VX,VQ,seval,Int.reduceEq])
  repeat'(first|intro _|apply And.intro)
  all_goals try first|omega|(simp only[LL];omega)|exact nlC (by decide) _|exact nbC rfl
  refine aloop (envCOk _ _ _) (fun i : Nat => ⟨[(1,.v (.slice 2 (f.map fateA))),(2,.v (.slice 1 (by_.map (AV.int .i64)))),(3,.v (.eptr [.int .i64 h.ports,.int .i64 h.lost,.slice 5 (h.ships.map shipA),.slice 3 (h.letters.map letA),.slice 4 (h.reports.map repA)])),(6,.loc 6 0),(8,.loc 8 0),(9,.v (.slice 1 ((ownTo by_ i).map (AV.int .i64)))),(10,.lslice 21 0 by_.length by_.length),(11,.v (.int .i64 i))],[9],
      [(6,[.int .i64 0,.int .i64 0,.slice 5 [],.slice 3 [],.slice 4 []]),(8,[.int .i64 h.ports,.int .i64 h.lost,.slice 5 (h.ships.map shipA),.slice 3 ((letTo h by_ i).map letA),.slice 4 []]),(21,(placeTo by_ i).map (AV.int .i64))],m⟩)
    (fun i => i ≤ by_.length) (fun i => by_.length - i) 0 (fun _ => rfl) (by simp) ?_ ?_
  · (simp only [FE,↓FP,seval])
    simp [ownTo,letTo,idxTo,placeTo_zero]
  intro i hi
  have e1 := ownTo_succ by_ i
  have e2 := letTo_succ h by_ i
  have e3 := ownTo_length by_ i
  have e4 := letTo_length h by_ i
  have e5 := idxTo_length by_ i
  have e6 : (placeTo by_ i).length = by_.length := by simp [placeTo]
  simp(maxSteps:=9^9)only[↓VX,VQ,seval,↓ixZ]
  repeat'(first|intro _|apply And.intro)
  all_goals try first|omega|(simp only[LL];omega)|exact nlC (by decide) _|exact nbC rfl
  · refine acut_keep_at 2 (envCOk _ _ _) rfl rfl rfl (fun (_ : Unit) => ⟨[(1,.v (.slice 2 (f.map fateA))),(2,.v (.slice 1 (by_.map (AV.int .i64)))),(3,.v (.eptr [.int .i64 h.ports,.int .i64 h.lost,.slice 5 (h.ships.map shipA),.slice 3 (h.letters.map letA),.slice 4 (h.reports.map repA)])),(6,.loc 6 0),(8,.loc 8 0),(9,.v (.slice 1 ((ownTo by_ i).map (AV.int .i64)))),(10,.lslice 21 0 by_.length by_.length),(11,.v (.int .i64 i))],[9],
      [(6,[.int .i64 0,.int .i64 0,.slice 5 [],.slice 3 [],.slice 4 []]),(8,[.int .i64 h.ports,.int .i64 h.lost,.slice 5 (h.ships.map shipA),.slice 3 ((letTo h by_ i).map letA),.slice 4 []]),(21,(placeTo by_ (i + 1)).map (AV.int .i64))],m⟩) (fun _ => True) (fun _ => rfl) ?_ ?_
    · have e7 := placeTo_store (by_ := by_) (i := i) (by omega)
      show vcOps _ _ (_ :: _) _ _
      simp(maxSteps:=9^9)only[↓VX,VQ,seval,List.take_succ_cons,List.take_zero,SV.refs,not_false_eq_true,implies_true]
      repeat'(first|intro _|apply And.intro)
      all_goals try first|omega|(simp only[LL];omega)|exact nlC (by decide) _|exact nbC rfl
      exact ⟨(),by (simp only [FE,↓FP,seval]); (try simp only [List.length_map]); exact e7⟩
    · rintro _ _
      simp(maxSteps:=9^9)only[↓VX,VQ,seval]
      repeat'(first|intro _|apply And.intro)
      all_goals try first|omega|(simp only[LL];omega)|exact nlC (by decide) _|exact nbC rfl
      · have q : 0 ≤ by_[i]! := by assumption
        rw [if_pos q] at e1 e2
        (refine adraw (by first | exact envOk _ | exact envCOk _ _ _) mixed [⟨false,false,0⟩,⟨false,false,0⟩,⟨false,false,0⟩,⟨false,true,0⟩,⟨false,false,0⟩,⟨false,false,0⟩,⟨false,false,0⟩,⟨false,false,0⟩,⟨false,false,0⟩,⟨false,false,0⟩,⟨false,true,0⟩,⟨false,false,0⟩,⟨false,false,0⟩] (by kernel_rfl) ?_; show vcOpsD _ _ _ (_ :: _) _ _)
        simp(maxSteps:=9^9)only[↓VX,VQ,seval]
        repeat'(first|intro _|apply And.intro)
        all_goals try first|omega|(simp only[LL];omega)|exact nlC (by decide) _|exact nbC rfl
        (refine ⟨i + 1,by first | omega | (dsimp only; omega),by dsimp only; omega,?_⟩; (simp only [FE,↓FP,seval]); try simp [e1,e2,letA])
      · have q : ¬ 0 ≤ by_[i]! := by assumption
        rw [if_neg q] at e1 e2
        (refine ⟨i + 1,by first | omega | (dsimp only; omega),by dsimp only; omega,?_⟩; (simp only [FE,↓FP,seval]); try simp [e1,e2])
  have hie : i = by_.length := by omega
  subst hie
  clear e1 e2
  have hrp := hh.report
  have hday := fun (s : Nat) (q : s < h.ships.length) (p : Int) => refday_c h hh f s p q (by omega) (hfk.late s (by omega))
  have hsaid := fun (r : RRep) (q1 : r.kind < 2) (q2 : 0 ≤ r.of_ ∧ r.of_.toNat < h.ships.length) => said_c h hh f r q1 q2 (by omega) (hfk.late _ (by omega))
  have hheard := fun (r : RRep) (s : Nat) (q1 : 2 ≤ r.kind) (q2 : r.kind ≤ 3) (q3 : 0 ≤ r.of_ ∧ r.of_.toNat < h.letters.length) (q : s < h.ships.length) => heard_c h hh f r s q1 q2 q3 q (by omega) (hfk.late _ (by omega))
  have hgs := fun (k : Nat) (q : k < by_.length) (q2 : 0 ≤ by_[k]!) => went_ship ec w q q2
  simp only [harbA,harbL,fatesA,repA] at hday hsaid hheard
  refine aloop (envCOk _ _ _) (fun i : Nat => ⟨[(1,.v (.slice 2 (f.map fateA))),(2,.v (.slice 1 (by_.map (AV.int .i64)))),(3,.v (.eptr [.int .i64 h.ports,.int .i64 h.lost,.slice 5 (h.ships.map shipA),.slice 3 (h.letters.map letA),.slice 4 (h.reports.map repA)])),(6,.loc 6 0),(8,.loc 8 0),(9,.v (.slice 1 ((ownTo by_ by_.length).map (AV.int .i64)))),(10,.lslice 21 0 by_.length by_.length),(12,.v (.int .i64 i))],[9],
      [(6,[.int .i64 0,.int .i64 0,.slice 5 [],.slice 3 [],.slice 4 []]),(8,[.int .i64 h.ports,.int .i64 h.lost,.slice 5 (h.ships.map shipA),.slice 3 ((letTo h by_ by_.length).map letA),.slice 4 ((repTo h f by_ i).map repA)]),(21,(placeTo by_ by_.length).map (AV.int .i64))],m⟩)
    (fun i => i ≤ h.reports.length) (fun i => h.reports.length - i) 0 (fun _ => rfl) (by simp) (by (simp only [FE,↓FP,seval]); try simp [repTo]) ?_
  intro i hi
  have e1 := repTo_succ (h := h) (f := f) (by_ := by_) (n := i)
  have e2 := repTo_length h f by_ i
  have hrp1 := hrp i
  simp(maxSteps:=9^9)only[↓VX,VQ,seval,↓ixZ]
  repeat'(first|intro _|apply And.intro)
  all_goals try first|omega|(simp only[LL];omega)|exact nlC (by decide) _|exact nbC rfl
  · have hk : (h.reports[i]!).kind < 2 := by assumption
    have hil : i < h.reports.length := by omega
    have hr := hrp1 hil
    rw [if_pos hk] at hr
    have e3 := e1 hil
    have hlen := hr.2.1
    have hof : (((h.reports[i]!).of_.toNat : Nat) : Int) = (h.reports[i]!).of_ := Int.toNat_of_nonneg hlen.1
    have d1 := hday (h.reports[i]!).of_.toNat (by omega) (h.reports[i]!).port
    have hT : toldR h f by_ (h.reports[i]!) = if soB (dated1 (h.reports[i]!) 0 (dayR h f (h.reports[i]!).of_.toNat (h.reports[i]!).port)) (dayR h f (h.reports[i]!).of_.toNat (h.reports[i]!).port) = true then some (dated1 (h.reports[i]!) 0 (dayR h f (h.reports[i]!).of_.toNat (h.reports[i]!).port)) else none := by
      unfold toldR; rw [if_pos hk]
    have sA := hsaid ⟨(h.reports[i]!).kind,(h.reports[i]!).of_,(h.reports[i]!).port,dayR h f (h.reports[i]!).of_.toNat (h.reports[i]!).port⟩ hk ⟨hlen.1,by show (h.reports[i]!).of_.toNat < _; omega⟩
    have sB := hsaid (h.reports[i]!) hk ⟨hlen.1,by omega⟩
    rw [hof] at d1
    rw [hT] at e3
    clear hT
    dsimp only at sA
    have hA : ∀ D : Int,(h.reports[i]!).kind = 0 → 0 ≤ D → dated1 (h.reports[i]!) 0 D = ⟨(h.reports[i]!).kind,(h.reports[i]!).of_,(h.reports[i]!).port,D⟩ := fun D q1 q2 => if_pos ⟨q1,q2⟩
    have hB : ∀ D : Int,¬ ((h.reports[i]!).kind = 0 ∧ 0 ≤ D) → dated1 (h.reports[i]!) 0 D = h.reports[i]! := fun D q1 => if_neg q1
    generalize dayR h f (h.reports[i]!).of_.toNat (h.reports[i]!).port = D at *
    generalize h.reports[i]! = r at *
    ((refine ACall.pure (d1) ?_; try simp(maxSteps:=9^9)only[↓VX,VQ,seval]); try simp(maxSteps:=9^9)only[↓VX,VQ,seval,GL])
    repeat'(first|intro _|apply And.intro)
    all_goals try first|omega|(simp only[LL];omega)|exact nlC (by decide) _|exact nbC rfl
    · rw [hA D (by assumption) (by assumption)] at e3
      generalize soB ⟨r.kind,r.of_,r.port,D⟩ D = b at *
      ((refine ACall.pure (sA) ?_; try simp(maxSteps:=9^9)only[↓VX,VQ,seval]); try simp(maxSteps:=9^9)only[↓VX,VQ,seval,GL])
      repeat'(first|intro _|apply And.intro)
      all_goals try first|omega|(simp only[LL];omega)|exact nlC (by decide) _|exact nbC rfl
      · have hb : b = false := by first | assumption | (rw [← Bool.not_eq_true]; assumption)
        rw [hb] at e3
        (refine ⟨i + 1,by first | omega | (dsimp only; omega),by dsimp only; omega,?_⟩; (simp only [FE,↓FP,seval]); try simp [e3])
      · have hb : b = true := by first | assumption | (rw [← Bool.not_eq_false]; assumption)
        rw [hb] at e3
        (refine adraw (by first | exact envOk _ | exact envCOk _ _ _) mixed [⟨false,false,0⟩,⟨false,false,0⟩,⟨false,false,0⟩,⟨false,true,0⟩,⟨false,false,0⟩,⟨false,false,0⟩,⟨false,true,0⟩,⟨false,false,0⟩,⟨false,false,0⟩] (by kernel_rfl) ?_; show vcOpsD _ _ _ (_ :: _) _ _)
        simp(maxSteps:=9^9)only[↓VX,VQ,seval]
        repeat'(first|intro _|apply And.intro)
        all_goals try first|omega|(simp only[LL];omega)|exact nlC (by decide) _|exact nbC rfl
        (refine ⟨i + 1,by first | omega | (dsimp only; omega),by dsimp only; omega,?_⟩; (simp only [FE,↓FP,seval]); try simp [e3,repA])
    all_goals
      rw [hB D (by omega)] at e3
      generalize soB r D = b at *
      ((refine ACall.pure (sB) ?_; try simp(maxSteps:=9^9)only[↓VX,VQ,seval]); try simp(maxSteps:=9^9)only[↓VX,VQ,seval,GL])
      repeat'(first|intro _|apply And.intro)
      all_goals try first|omega|(simp only[LL];omega)|exact nlC (by decide) _|exact nbC rfl
    all_goals first
      | (have hb : b = false := by first | assumption | (rw [← Bool.not_eq_true]; assumption)
         rw [hb] at e3
         (refine ⟨i + 1,by first | omega | (dsimp only; omega),by dsimp only; omega,?_⟩; (simp only [FE,↓FP,seval]); try simp [e3])
         done)
      | (have hb : b = true := by first | assumption | (rw [← Bool.not_eq_false]; assumption)
         rw [hb] at e3
         (refine adraw (by first | exact envOk _ | exact envCOk _ _ _) mixed [⟨false,false,0⟩,⟨false,false,0⟩,⟨false,false,0⟩,⟨false,true,0⟩,⟨false,false,0⟩,⟨false,false,0⟩,⟨false,true,0⟩,⟨false,false,0⟩,⟨false,false,0⟩] (by kernel_rfl) ?_; show vcOpsD _ _ _ (_ :: _) _ _)
         simp(maxSteps:=9^9)only[↓VX,VQ,seval]
         repeat'(first|intro _|apply And.intro)
         all_goals try first|omega|(simp only[LL];omega)|exact nlC (by decide) _|exact nbC rfl
         (refine ⟨i + 1,by first | omega | (dsimp only; omega),by dsimp only; omega,?_⟩; (simp only [FE,↓FP,seval]); try simp [e3,repA])
         done)
  · have hk : ¬ (h.reports[i]!).kind < 2 := by assumption
    have e3 := e1 (by omega)
    have hT : toldR h f by_ (h.reports[i]!) = none := by unfold toldR; rw [if_neg hk,if_pos (by assumption)]
    rw [hT] at e3
    (refine ⟨i + 1,by first | omega | (dsimp only; omega),by dsimp only; omega,?_⟩; (simp only [FE,↓FP,seval]); try simp [e3])
  · have hk : ¬ (h.reports[i]!).kind < 2 := by assumption
    have hq : ¬ by_[(h.reports[i]!).of_.toNat]! < 0 := by assumption
    have hil : i < h.reports.length := by omega
    have hr := hrp1 hil
    rw [if_neg hk] at hr
    have e3 := e1 hil
    have hlen := hr.2.1
    obtain ⟨g1,g2,g3⟩ := hgs (h.reports[i]!).of_.toNat (by omega) (by omega)
    have d1 := hday (by_[(h.reports[i]!).of_.toNat]!).toNat g1 (h.letters[(h.reports[i]!).of_.toNat]!).port
    have hT : toldR h f by_ (h.reports[i]!) = if soB (dated1 (h.reports[i]!) 2 (dayR h f (by_[(h.reports[i]!).of_.toNat]!).toNat (h.letters[(h.reports[i]!).of_.toNat]!).port)) (dayR h f (by_[(h.reports[i]!).of_.toNat]!).toNat (h.letters[(h.reports[i]!).of_.toNat]!).port) = true
        then some { dated1 (h.reports[i]!) 2 (dayR h f (by_[(h.reports[i]!).of_.toNat]!).toNat (h.letters[(h.reports[i]!).of_.toNat]!).port) with of_ := ((ownTo by_ (h.reports[i]!).of_.toNat).length : Int) } else none := by
      unfold toldR; rw [if_neg hk,if_neg hq]
    have sA := hheard ⟨(h.reports[i]!).kind,(h.reports[i]!).of_,(h.reports[i]!).port,dayR h f (by_[(h.reports[i]!).of_.toNat]!).toNat (h.letters[(h.reports[i]!).of_.toNat]!).port⟩ (by_[(h.reports[i]!).of_.toNat]!).toNat (by show 2 ≤ (h.reports[i]!).kind; omega) hr.1.2 ⟨hlen.1,by show (h.reports[i]!).of_.toNat < _; omega⟩ g1
    have sB := hheard (h.reports[i]!) (by_[(h.reports[i]!).of_.toNat]!).toNat (by omega) hr.1.2 ⟨hlen.1,by omega⟩ g1
    obtain ⟨rest,hdr⟩ := placeTo_drop (by_ := by_) (n := by_.length) (j := (h.reports[i]!).of_.toNat) (by omega) (by omega)
    rw [← g3] at d1
    rw [hT] at e3
    clear hT
    dsimp only at sA
    rw [← g3] at sA sB
    have hA : ∀ D : Int,(h.reports[i]!).kind = 2 → 0 ≤ D → dated1 (h.reports[i]!) 2 D = ⟨(h.reports[i]!).kind,(h.reports[i]!).of_,(h.reports[i]!).port,D⟩ := fun D q1 q2 => if_pos ⟨q1,q2⟩
    have hB : ∀ D : Int,¬ ((h.reports[i]!).kind = 2 ∧ 0 ≤ D) → dated1 (h.reports[i]!) 2 D = h.reports[i]! := fun D q1 => if_neg q1
    generalize dayR h f (by_[(h.reports[i]!).of_.toNat]!).toNat (h.letters[(h.reports[i]!).of_.toNat]!).port = D at *
    generalize h.reports[i]! = r at *
    (refine adraw (by first | exact envOk _ | exact envCOk _ _ _) mixed [⟨false,false,0⟩,⟨false,false,0⟩,⟨false,false,0⟩,⟨false,false,0⟩,⟨false,false,0⟩,⟨false,false,0⟩,⟨false,false,0⟩,⟨false,false,0⟩,⟨false,false,0⟩,⟨false,false,0⟩,⟨false,false,0⟩,⟨false,false,0⟩,⟨false,false,0⟩,⟨false,false,0⟩,⟨false,false,0⟩,⟨false,false,0⟩] (by kernel_rfl) ?_; show vcOpsD _ _ _ (_ :: _) _ _)
    simp(maxSteps:=9^9)only[↓VX,VQ,seval,↓ixZ]
    repeat'(first|intro _|apply And.intro)
    all_goals try first|omega|(simp only[LL];omega)|exact nlC (by decide) _|exact nbC rfl
    refine VPure.of d1 ?_
    simp(maxSteps:=9^9)only[↓VX,VQ,seval]
    repeat'(first|intro _|apply And.intro)
    all_goals try first|omega|(simp only[LL];omega)|exact nlC (by decide) _|exact nbC rfl
    · rw [hA D (by assumption) (by assumption)] at e3
      generalize soB ⟨r.kind,r.of_,r.port,D⟩ D = b at *
      (refine adraw (by first | exact envOk _ | exact envCOk _ _ _) mixed [⟨false,false,0⟩,⟨false,false,0⟩,⟨false,false,0⟩,⟨false,false,0⟩,⟨false,false,0⟩,⟨false,false,0⟩,⟨false,false,0⟩,⟨false,false,0⟩,⟨false,false,0⟩,⟨false,false,0⟩] (by kernel_rfl) ?_; show vcOpsD _ _ _ (_ :: _) _ _)
      simp(maxSteps:=9^9)only[↓VX,VQ,seval,↓ixZ]
      repeat'(first|intro _|apply And.intro)
      all_goals try first|omega|(simp only[LL];omega)|exact nlC (by decide) _|exact nbC rfl
      refine VPure.of sA ?_
      simp(maxSteps:=9^9)only[↓VX,VQ,seval,↓ixZ,hdr]
      repeat'(first|intro _|apply And.intro)
      all_goals try first|omega|(simp only[LL];omega)|exact nlC (by decide) _|exact nbC rfl
      · have hb : b = false := by assumption
        rw [hb] at e3
        (refine ⟨i + 1,by first | omega | (dsimp only; omega),by dsimp only; omega,?_⟩; (simp only [FE,↓FP,seval]); try simp [e3])
      · have hb : b = true := by first | assumption | (rw [← Bool.not_eq_false]; assumption)
        rw [hb] at e3
        (refine adraw (by first | exact envOk _ | exact envCOk _ _ _) mixed [⟨false,false,0⟩,⟨false,false,0⟩,⟨false,false,0⟩,⟨false,true,0⟩,⟨false,false,0⟩,⟨false,false,0⟩,⟨false,true,0⟩,⟨false,false,0⟩,⟨false,false,0⟩] (by kernel_rfl) ?_; show vcOpsD _ _ _ (_ :: _) _ _)
        simp(maxSteps:=9^9)only[↓VX,VQ,seval]
        repeat'(first|intro _|apply And.intro)
        all_goals try first|omega|(simp only[LL];omega)|exact nlC (by decide) _|exact nbC rfl
        (refine ⟨i + 1,by first | omega | (dsimp only; omega),by dsimp only; omega,?_⟩; (simp only [FE,↓FP,seval]); try simp [e3,repA])
    all_goals
      rw [hB D (by omega)] at e3
      generalize soB r D = b at *
      (refine adraw (by first | exact envOk _ | exact envCOk _ _ _) mixed [⟨false,false,0⟩,⟨false,false,0⟩,⟨false,false,0⟩,⟨false,false,0⟩,⟨false,false,0⟩,⟨false,false,0⟩,⟨false,false,0⟩,⟨false,false,0⟩,⟨false,false,0⟩,⟨false,false,0⟩] (by kernel_rfl) ?_; show vcOpsD _ _ _ (_ :: _) _ _)
      simp(maxSteps:=9^9)only[↓VX,VQ,seval,↓ixZ]
      repeat'(first|intro _|apply And.intro)
      all_goals try first|omega|(simp only[LL];omega)|exact nlC (by decide) _|exact nbC rfl
      refine VPure.of sB ?_
      simp(maxSteps:=9^9)only[↓VX,VQ,seval,↓ixZ,hdr]
      repeat'(first|intro _|apply And.intro)
      all_goals try first|omega|(simp only[LL];omega)|exact nlC (by decide) _|exact nbC rfl
    all_goals first
      | (have hb : b = false := by assumption
         rw [hb] at e3
         (refine ⟨i + 1,by first | omega | (dsimp only; omega),by dsimp only; omega,?_⟩; (simp only [FE,↓FP,seval]); try simp [e3])
         done)
      | (have hb : b = true := by first | assumption | (rw [← Bool.not_eq_false]; assumption)
         rw [hb] at e3
         (refine adraw (by first | exact envOk _ | exact envCOk _ _ _) mixed [⟨false,false,0⟩,⟨false,false,0⟩,⟨false,false,0⟩,⟨false,true,0⟩,⟨false,false,0⟩,⟨false,false,0⟩,⟨false,true,0⟩,⟨false,false,0⟩,⟨false,false,0⟩] (by kernel_rfl) ?_; show vcOpsD _ _ _ (_ :: _) _ _)
         simp(maxSteps:=9^9)only[↓VX,VQ,seval]
         repeat'(first|intro _|apply And.intro)
         all_goals try first|omega|(simp only[LL];omega)|exact nlC (by decide) _|exact nbC rfl
         (refine ⟨i + 1,by first | omega | (dsimp only; omega),by dsimp only; omega,?_⟩; (simp only [FE,↓FP,seval]); try simp [e3,repA])
         done)
  · have hie : i = h.reports.length := by omega
    subst hie
    rfl
end Go.Proofs.YtnfmmhmfbipkjaaGreat.Abs
/- Laws: a book that is told as it was (for ReplyTrue). -/
namespace Go.Proofs.YtnfmmhmfbipkjaaGreat.Abs
set_option linter.unusedSimpArgs false
open Go Go.RowKit Go.Proofs
def someW (W : Int) (ws : List Nat) (k w : Nat) : Bool := bitI W w && decide (turnN ws (k * 5 + w) % 2 = 1)
def wordsTo (W : Int) (ws : List Nat) (k : Nat) : Nat → Int
 | 0 => 0
 | n + 1 => if someW W ws k n = true then wordsTo W ws k n + 2 ^ n else wordsTo W ws k n
def wordsK (W : Int) (ws : List Nat) (k : Nat) : Int := if wordsTo W ws k 5 = 0 then W else wordsTo W ws k 5
theorem wordsTo_le (W : Int) (ws : List Nat) (k : Nat) : ∀ n,0 ≤ wordsTo W ws k n ∧ wordsTo W ws k n < 2 ^ n
 | 0 => by simp [wordsTo]
 | n + 1 => by
  have ih := wordsTo_le W ws k n
  have h2 : (2 : Int) ^ (n + 1) = 2 ^ n + 2 ^ n := by rw [Int.pow_succ]; omega
  unfold wordsTo
  split <;> omega
theorem wordsTo_nat (W : Int) (ws : List Nat) (k : Nat) : ∀ n,wordsTo W ws k n = (setOf (someW W ws k) n : Nat)
 | 0 => rfl
 | n + 1 => by
  unfold wordsTo setOf
  rw [wordsTo_nat W ws k n]
  split
  ·have h := setOf_lt (someW W ws k) n
   have h2 := Nat.two_pow_add_eq_or_of_lt h 1
   rw [Nat.mul_one] at h2
   rw [Nat.or_comm,← h2,Int.natCast_add,Int.natCast_pow,Int.add_comm]
   rfl
  ·simp
theorem wordsK_fit {W : Int} (h : 1 ≤ W ∧ W ≤ 31) (ws : List Nat) (k : Nat) : (1 ≤ wordsK W ws k ∧ wordsK W ws k ≤ 31) ∧ ∀ w : Nat,w < 5 → bitI (wordsK W ws k) w = true → bitI W w = true := by
 have hl := wordsTo_le W ws k 5
 unfold wordsK
 split
 ·exact ⟨h,fun _ _ e => e⟩
 ·refine ⟨⟨by omega,by omega⟩,fun w hw e => ?_⟩
  have h2 := wordsTo_nat W ws k 5
  have h3 : setOf (someW W ws k) 5 < 32 := setOf_lt _ 5
  rw [h2,bit32 _ h3 w hw,setOf_bit] at e
  rw [Bool.and_eq_true] at e
  have := e.2
  unfold someW at this
  rw [Bool.and_eq_true] at this
  exact this.1
section
variable (b : RBook) (f : List Fate) (all : List Int) (ws ls : List Nat)
def wordsT : List Int := (idxTo all all.length).map fun i => b.words[i]!
def dayT (k : Nat) : Int := dayR (toldH b.harb f all) f ((ownTo all all.length)[k]!).toNat ((toldH b.harb f all).letters[k]!).port
def cameT (k : Nat) : Int := dayT b f all k + b.back + (turnN ls k % 4 : Nat)
def okT6 (k : Nat) : Bool := decide (0 ≤ dayT b f all k) && decide (cameT b f all ls k ≤ 60)
def gotTo : Nat → List Nat
 | 0 => []
 | k + 1 => if (gotTo k).length < b.answers.length then (if okT6 b f all ls k = true then gotTo k ++ [k] else gotTo k) else gotTo k
def ansT (k : Nat) : RAns := ⟨((toldH b.harb f all).letters[k]!).port,wordsK ((wordsT b all)[k]!) ws k,cameT b f all ls k⟩
def gotT : List Nat := gotTo b f all ls (ownTo all all.length).length
def gotI : List Int := (gotT b f all ls).map fun (k : Nat) => (k : Int)
def toldB : RBook := ⟨toldH b.harb f all,wordsT b all,b.back,(gotT b f all ls).map (ansT b f all ws ls)⟩
end
theorem got_mem {b : RBook} {f : List Fate} {all : List Int} {ls : List Nat} : ∀ {n k : Nat},k ∈ gotTo b f all ls n → k < n ∧ okT6 b f all ls k = true
 | 0,k,h => by cases h
 | n + 1,k,h => by
  unfold gotTo at h
  split at h
  ·split at h
   ·rcases List.mem_append.1 h with h | h
    ·have := got_mem h; exact ⟨by omega,this.2⟩
    ·rw [List.mem_singleton] at h
     subst h
     exact ⟨by omega,by assumption⟩
   ·have := got_mem h; exact ⟨by omega,this.2⟩
  ·have := got_mem h; exact ⟨by omega,this.2⟩
theorem got_nodup {b : RBook} {f : List Fate} {all : List Int} {ls : List Nat} : ∀ n,(gotTo b f all ls n).Nodup
 | 0 => List.nodup_nil
 | n + 1 => by
  have ih := got_nodup (b := b) (f := f) (all := all) (ls := ls) n
  unfold gotTo
  split
  ·split
   ·refine List.nodup_append.2 ⟨ih,by simp,fun x hx y hy e => ?_⟩
    rw [List.mem_singleton] at hy
    have := (got_mem hx).1
    omega
   ·exact ih
  ·exact ih
theorem got_length {b : RBook} {f : List Fate} {all : List Int} {ls : List Nat} : ∀ n,(gotTo b f all ls n).length ≤ b.answers.length
 | 0 => by simp [gotTo]
 | n + 1 => by
  have ih := got_length (b := b) (f := f) (all := all) (ls := ls) n
  unfold gotTo
  split
  ·split
   ·rw [List.length_append]; simp; omega
   ·exact ih
  ·exact ih
theorem own_n {b : RBook} (_q : (checkB b).2.2 = 0) {f : List Fate} {all : List Int} (_w : Went b.harb f all) : (ownTo all all.length).length = (idxTo all all.length).length ∧ (toldH b.harb f all).letters.length = (idxTo all all.length).length := by
 refine ⟨?_,letTo_length b.harb all all.length⟩
 unfold ownTo; rw [List.length_map]
theorem toldB_ans {b : RBook} (_q : (checkB b).2.2 = 0) {f : List Fate} {all : List Int} (_w : Went b.harb f all) (ws ls : List Nat) {a : Nat} (ha : a < (gotT b f all ls).length) : (toldB b f all ws ls).answers[a]! = ansT b f all ws ls ((gotT b f all ls)[a]!) := map_at _ ha
theorem toldB_n {b : RBook} (_q : (checkB b).2.2 = 0) {f : List Fate} {all : List Int} (_w : Went b.harb f all) (ws ls : List Nat) : (toldB b f all ws ls).answers.length = (gotT b f all ls).length := List.length_map _
theorem gotI_at {b : RBook} (_q : (checkB b).2.2 = 0) {f : List Fate} {all : List Int} (_w : Went b.harb f all) (ls : List Nat) {a : Nat} (ha : a < (gotT b f all ls).length) : (gotI b f all ls)[a]! = (((gotT b f all ls)[a]! : Nat) : Int) := map_at (fun (k : Nat) => (k : Int)) ha
theorem gotI_n {b : RBook} (_q : (checkB b).2.2 = 0) {f : List Fate} {all : List Int} (_w : Went b.harb f all) (ls : List Nat) : (gotI b f all ls).length = (gotT b f all ls).length := List.length_map _
theorem gotI_many {b : RBook} (_q : (checkB b).2.2 = 0) {f : List Fate} {all : List Int} (_w : Went b.harb f all) (ls : List Nat) : manyL (gotI b f all ls) = 0 := by
 unfold manyL gotI
 rw [List.filter_eq_nil_iff.2]
 ·rfl
 ·intro x hx
  obtain ⟨k,_,rfl⟩ := List.mem_map.1 hx
  rw [decide_eq_true_eq]; omega
theorem manyL_zero {b : RBook} (_q : (checkB b).2.2 = 0) {f : List Fate} {all : List Int} (_w : Went b.harb f all) {l : List Int} (e : manyL l = 0) {i : Nat} (hi : i < l.length) : l[i]! ≠ -1 := by
 unfold manyL at e
 have : (l.filter fun x => decide (x = -1)) = [] := List.eq_nil_of_length_eq_zero (by omega)
 have := List.filter_eq_nil_iff.1 this l[i] (List.getElem_mem hi)
 rw [getD_any hi]
 simpa using this
section
variable {b : RBook} (q : (checkB b).2.2 = 0) {f : List Fate} {all : List Int} (w : Went b.harb f all) (ws ls : List Nat)
include q w
theorem got_lt {a : Nat} (ha : a < (gotT b f all ls).length) : (gotT b f all ls)[a]! < (idxTo all all.length).length ∧ okT6 b f all ls ((gotT b f all ls)[a]!) = true := by
 have : (gotT b f all ls)[a]! ∈ gotT b f all ls := by rw [getD_any ha]; exact List.getElem_mem ha
 have := got_mem this
 rw [(own_n q w).1] at this
 exact this
theorem toldB_words {k : Nat} (hk : k < (idxTo all all.length).length) : 1 ≤ (wordsT b all)[k]! ∧ (wordsT b all)[k]! ≤ 31 := by
 have e : (wordsT b all)[k]! = b.words[(idxTo all all.length)[k]!]! := map_at _ hk
 have hb := bok_check q
 have hn := w.n
 have hw := hb.w
 rw [e]
 exact hb.word _ (by have := (idx_get hk).1; omega)
theorem toldB_bok : BOk (toldB b f all ws ls) where
 h := hok_check (told_check (check_harb q) w)
 w := by
  show (wordsT b all).length = (toldH b.harb f all).letters.length
  rw [(own_n q w).2]
  exact List.length_map _
 word := by
  intro i hi
  exact toldB_words q w (by have : i < (wordsT b all).length := hi; unfold wordsT at this; rwa [List.length_map] at this)
 back := (bok_check q).back
 n := by
  rw [toldB_n q w]
  exact Nat.le_trans (got_length _) (bok_check q).n
 t := List.ne_nil_of_mem (told_mem (check_harb q) w)
 ans := by
  intro a ha
  rw [toldB_n q w] at ha
  rw [toldB_ans q w ws ls ha]
  obtain ⟨h1,h2⟩ := got_lt q w ls ha
  generalize (gotT b f all ls)[a]! = k at *
  have hl := (hok_check (told_check (check_harb q) w)).letter k (by rw [(own_n q w).2]; exact h1)
  unfold okT6 at h2
  rw [Bool.and_eq_true,decide_eq_true_eq,decide_eq_true_eq] at h2
  have hbk := (bok_check q).back
  refine ⟨hl.1,(wordsK_fit (toldB_words q w h1) ws k).1,?_⟩
  show 0 ≤ cameT b f all ls k ∧ cameT b f all ls k ≤ 60
  refine ⟨?_,h2.2⟩
  unfold cameT
  omega
theorem toldB_check : (checkB (toldB b f all ws ls)).2.2 = 0 := check_bok (b := toldB b f all ws ls) (told_check (check_harb q) w) (toldB_bok q w ws ls)
theorem toldB_day {k : Nat} (hk : k < (idxTo all all.length).length) : dayT b f all k ∈ rowE (toldH b.harb f all) k (truOf (toldH b.harb f all) [] f) := by
 unfold rowE
 exact List.mem_map.2 ⟨_,(told_own (check_harb q) w hk).1,rfl⟩
theorem toldB_can {a : Nat} (ha : a < (gotT b f all ls).length) : canR (toldB b f all ws ls) (truOf (toldH b.harb f all) [] f) a ((gotT b f all ls)[a]!) = true := by
 have e := toldB_ans q w ws ls ha
 obtain ⟨h1,h2⟩ := got_lt q w ls ha
 generalize (gotT b f all ls)[a]! = k at *
 unfold okT6 at h2
 rw [Bool.and_eq_true,decide_eq_true_eq,decide_eq_true_eq] at h2
 unfold canR
 rw [Bool.and_eq_true]
 constructor
 ·unfold fitsB
  rw [e,Bool.and_eq_true]
  refine ⟨decide_eq_true rfl,?_⟩
  rw [List.all_eq_true]
  intro v hv
  have hv := List.mem_range.1 hv
  have := (wordsK_fit (toldB_words q w h1) ws k).2 v hv
  rw [Bool.or_eq_true,Bool.not_eq_true']
  show bitI (wordsK ((wordsT b all)[k]!) ws k) v = false ∨ bitI ((wordsT b all)[k]!) v = true
  cases hx : bitI (wordsK ((wordsT b all)[k]!) ws k) v
  ·exact .inl rfl
  ·exact .inr (this hx)
 ·unfold soonB
  rw [List.any_eq_true]
  refine ⟨_,toldB_day q w h1,?_⟩
  rw [e]
  unfold untilB
  rw [Bool.and_eq_true,decide_eq_true_eq,decide_eq_true_eq]
  refine ⟨h2.1,?_⟩
  show dayT b f all k ≤ cameT b f all ls k - b.back
  unfold cameT
  omega
theorem toldB_way : gotI b f all ls ∈ waysR (toldB b f all ws ls) (truOf (toldH b.harb f all) [] f) := by
 refine mem_ways_set.2 ⟨?_,fun a ha => ?_,fun i j hi hj e hs => ?_⟩
 ·rw [gotI_n q w,toldB_n q w]
 ·rw [toldB_n q w] at ha
  refine .inr ⟨(gotT b f all ls)[a]!,?_,gotI_at q w ls ha,toldB_can q w ws ls ha⟩
  show _ < (toldH b.harb f all).letters.length
  rw [(own_n q w).2]; exact (got_lt q w ls ha).1
 ·rw [toldB_n q w] at hi hj
  rw [gotI_at q w ls hi,gotI_at q w ls hj] at e
  have hd : (gotT b f all ls).Nodup := got_nodup _
  rw [getD_any hi,getD_any hj] at e
  refine (List.getElem?_inj hi hd).1 ?_
  rw [List.getElem?_eq_getElem hi,List.getElem?_eq_getElem hj]
  exact congrArg some (by omega)
theorem toldB_least : leastR (toldB b f all ws ls) = 0 := by
 have h1 := least_le (b := toldB b f all ws ls) (told_mem (check_harb q) w) (toldB_way q w ws ls)
 rw [gotI_many q w] at h1
 have h2 := (least_range (b := toldB b f all ws ls) (toldB_bok q w ws ls)).1
 omega
theorem toldB_fair : (truOf (toldH b.harb f all) [] f,gotI b f all ls) ∈ fairR (toldB b f all ws ls) :=
 (fair_mem (b := toldB b f all ws ls)).2 ⟨told_mem (check_harb q) w,toldB_way q w ws ls,by rw [toldB_least q w]; exact gotI_many q w ls⟩
theorem toldB_strays : straysR (toldB b f all ws ls) = ([],[],0) := by
 have hq := toldB_check q w ws ls
 have hb := toldB_bok q w ws ls
 have hp := fair_pos hb
 have hno : ∀ a,a < (toldB b f all ws ls).answers.length → askF (fun x : RTru × List Int => decide (x.2[a]! = -1)) (fairR (toldB b f all ws ls)) = 2 := fun a ha => by
  rw [ask_none hp]
  intro x hx
  have h3 := (fair_mem.1 hx).2.2
  rw [toldB_least q w] at h3
  rw [decide_eq_true_eq]
  exact manyL_zero q w h3 (by rw [fair_len hx]; exact ha)
 rw [straysR_is hb hq]
 refine Prod.ext ?_ (Prod.ext ?_ rfl)
 ·show idxF _ _ = []
  refine List.eq_nil_iff_forall_not_mem.2 fun v hv => ?_
  unfold idxF at hv
  simp only [List.mem_map,List.mem_filter,List.mem_range,decide_eq_true_eq] at hv
  obtain ⟨a,⟨h1,h2⟩,_⟩ := hv
  rw [hno a h1] at h2; cases h2
 ·show idxF _ _ = []
  refine List.eq_nil_iff_forall_not_mem.2 fun v hv => ?_
  unfold idxF at hv
  simp only [List.mem_map,List.mem_filter,List.mem_range] at hv
  obtain ⟨a,⟨h1,h2⟩,_⟩ := hv
  rw [hno a h1] at h2
  revert h2; decide
theorem toldB_belongs {a : Nat} (ha : a < (gotT b f all ls).length) : (belongsR (toldB b f all ws ls) a ((gotT b f all ls)[a]! : Nat)).2 = 0 ∧ (belongsR (toldB b f all ws ls) a ((gotT b f all ls)[a]! : Nat)).1 ≠ 2 := by
 have hq := toldB_check q w ws ls
 have hb := toldB_bok q w ws ls
 have hk : (gotT b f all ls)[a]! < (toldB b f all ws ls).harb.letters.length := by
  show _ < (toldH b.harb f all).letters.length
  rw [(own_n q w).2]; exact (got_lt q w ls ha).1
 rw [belongs_ok hq (by rw [toldB_n q w]; exact ha) hk]
 refine ⟨rfl,fun h => ?_⟩
 have := (ask_none (fair_pos hb)).1 h _ (toldB_fair q w ws ls)
 rw [decide_eq_true_eq] at this
 exact this (gotI_at q w ls ha)
theorem toldB_could {a : Nat} (ha : a < (gotT b f all ls).length) : (couldR (toldB b f all ws ls) a).2 = 0 ∧ (((gotT b f all ls)[a]! : Nat) : Int) ∈ (couldR (toldB b f all ws ls) a).1 := by
 have hq := toldB_check q w ws ls
 rw [could_ok hq (by rw [toldB_n q w]; exact ha)]
 refine ⟨rfl,mem_couldC.2 ⟨_,rfl,?_,_,told_mem (check_harb q) w,toldB_can q w ws ls ha⟩⟩
 show _ < (toldH b.harb f all).letters.length
 rw [(own_n q w).2]; exact (got_lt q w ls ha).1
theorem toldB_came {k : Nat} (hk : k < (idxTo all all.length).length) : (cameR (toldB b f all ws ls) k).2.2 = 0 ∧
  (0 ≤ dayT b f all k → (cameR (toldB b f all ws ls) k).2.1 ≠ 2 ∧ (cameR (toldB b f all ws ls) k).1.lo ≤ dayT b f all k ∧ dayT b f all k ≤ (cameR (toldB b f all ws ls) k).1.hi) ∧
  (dayT b f all k < 0 → (cameR (toldB b f all ws ls) k).2.1 ≠ 1) := by
 have hq := toldB_check q w ws ls
 have hkz : k < (toldB b f all ws ls).harb.letters.length := by
  show _ < (toldH b.harb f all).letters.length
  rw [(own_n q w).2]; exact hk
 have hx := toldB_fair q w ws ls
 have hc : dayT b f all k ∈ camDL (toldB b f all ws ls) (fairR (toldB b f all ws ls)) k := by
  refine mem_camDL.2 ⟨_,hx,toldB_day q w hk,(fine_is hx).2 fun a ha e => ?_⟩
  rw [toldB_n q w] at ha
  have e : (gotI b f all ls)[a]! = (k : Int) := e
  rw [gotI_at q w ls ha] at e
  have hka : (gotT b f all ls)[a]! = k := by omega
  have h2 := (got_lt q w ls ha).2
  rw [toldB_ans q w ws ls ha,hka]
  rw [hka] at h2
  unfold okT6 at h2
  rw [Bool.and_eq_true,decide_eq_true_eq,decide_eq_true_eq] at h2
  unfold untilB
  rw [Bool.and_eq_true,decide_eq_true_eq,decide_eq_true_eq]
  refine ⟨h2.1,?_⟩
  show dayT b f all k ≤ cameT b f all ls k - b.back
  unfold cameT
  omega
 obtain ⟨c1,c2⟩ := came_is (b := toldB b f all ws ls) (k := k)
 rw [came_ok hq hkz]
 have hp : 0 < (camDL (toldB b f all ws ls) (fairR (toldB b f all ws ls)) k).length := List.length_pos_of_mem hc
 generalize camTo (toldB b f all ws ls) (fairR (toldB b f all ws ls)) k (fairR (toldB b f all ws ls)).length = C at *
 generalize camDL (toldB b f all ws ls) (fairR (toldB b f all ws ls)) k = L at *
 refine ⟨rfl,fun h0 => ?_,fun h0 h1 => ?_⟩
 ·have hy : 0 < C.yes := by
   rw [c1.yes]
   have : dayT b f all k ∈ L.filter fun d => decide (0 ≤ d) := List.mem_filter.2 ⟨hc,decide_eq_true h0⟩
   have := List.length_pos_of_mem this
   omega
  refine ⟨fun z => ?_,c1.all _ hc h0⟩
  have z : settledR C.yes C.all = 2 := z
  rw [settled_never (by omega)] at z
  omega
 ·have h1 : settledR C.yes C.all = 1 := h1
  rw [settled_must,c1.yes,c2] at h1
  have : (L.filter fun d => decide (0 ≤ d)).length = L.length := by omega
  have := List.length_filter_eq_length_iff.1 this _ hc
  rw [decide_eq_true_eq] at this
  omega
end
end Go.Proofs.YtnfmmhmfbipkjaaGreat.Abs
/- The abstract machine,part 35: a cut in whose statement a slice that is read only under a condition stays its slot's own. -/
namespace Go.Proofs.YtnfmmhmfbipkjaaGreat.Abs
set_option linter.unusedSimpArgs false
open Go Go.RowKit
section
variable {E : Env} {st : St} {n : Nat}
theorem acut_keepG (hE : EnvOk E) {ops : Array Oper} {K : St → Prop} {α : Type} (pre : List Oper) (o : Oper) (post : List Oper) (x : Operand) (hops : ops.toList = pre ++ o :: post) (hop : o.op = .move x) (I : α → Head) (J : α → Prop) (hok : ∀ x,(I x).ok = true)
  (h : vcOps E ops pre (fun st1 => vcGuard ops o.guard (fun st1 => (∀ i,¬ (st1.sv E.T o.type x).refs i) ∧ vcOps E ops post (fun st' => ∃ x,J x ∧ Fits st' (I x)) (st1.put o.dst (st1.sv E.T o.type x) false))
   (fun st1 => vcOps E ops post (fun st' => ∃ x,J x ∧ Fits st' (I x)) (st1.put o.dst undefS false)) st1) st) (hk : ∀ x,J x → K (I x).st) : ACut E n ops K st .mk := by
 refine ⟨fun hc id r hrd G w a hi hf hs => wpIn_region_list ?_⟩
 rw [hops] at hc ⊢
 simp only [List.all_append,List.all_cons,Bool.and_eq_true] at hc
 obtain ⟨c1,c2,c3⟩ := hc
 refine vcOps_pre hE pre h c1 hi hf hs fun a1 w1 G1 st1 x1 i1 f1 s1 h => ?_
 suffices H : ∀ Q : Exit → Act → World → Prop,(∀ a3 w3 G3 st3,Ext G1 w1 G3 w3 → Inv G3 w3 → FRel G3 w3 a3 st3 → a3.tmps.size = n → (∃ x,J x ∧ Fits st3 (I x)) → Q .normal a3 w3) → wpListIn (fen r) 0 E.P ops Q (o :: post) a1 w1 from
  H _ (by
   rintro a3 w3 G3 st3 x3 i3 f3 s3 ⟨y,hj,hfit⟩
   exact ⟨G3,(I y).st,(x1.trans x3).toL,i3,f3.weaken hfit (hok y),s3,rfl,hk y hj⟩)
 intro Q hQ
 have hd' : ∀ t,o.dst = some t → t < a1.tmps.size := fun t ht => by rw [s1]; simpa [dstOk,ht] using c2
 have yes : ∀ st1,FRel G1 w1 a1 st1 → ((∀ i,¬ (st1.sv E.T o.type x).refs i) ∧ vcOps E ops post (fun st' => ∃ x,J x ∧ Fits st' (I x)) (st1.put o.dst (st1.sv E.T o.type x) false)) → Region.wanted o (yielded ops a1.tmps) = true → wpListIn (fen r) 0 E.P ops Q (o :: post) a1 w1 := by
  rintro st1 ⟨β,R,f1⟩ ⟨k0,k1⟩ hw
  have hrun : (execOp a1.eval o).run E.P w1 = .ok (.value (a1.eval x)) w1 := by
   obtain ⟨dst,op,type,pos,after,guard⟩ := o
   simp only at hop
   subst hop
   simp [execOp]
  have f2 := f1.put (d := o.dst) (x := st1.sv E.T o.type x) (v := a1.eval x) hd' (f1.eval E.T o.type x) (fun i hi => absurd hi (k0 i))
  unfold wpListIn
  rw [if_pos hw]
  refine oper_in (fun c hc => by rw [hop] at hc; cases hc) ?_
  rw [hrun]
  exact vcOps_sound hE post k1 c3 i1 ⟨β,R,f2⟩ (by rw [put_size]; exact s1) hQ
 have no : ∀ st1,FRel G1 w1 a1 st1 → vcOps E ops post (fun st' => ∃ x,J x ∧ Fits st' (I x)) (st1.put o.dst undefS false) → Region.wanted o (yielded ops a1.tmps) = false → wpListIn (fen r) 0 E.P ops Q (o :: post) a1 w1 := by
  intro st1 ⟨β,R,hf1⟩ h hw
  unfold wpListIn
  rw [if_neg (by rw [hw]; simp)]
  refine ⟨fun _ _ => fen_fn r _,?_⟩
  exact vcOps_sound hE post h c3 i1 ⟨β,R,hf1.put hd' (x := undefS) (v := undef) (rep_undef _ _) (fun i h => h.elim)⟩ (by rw [put_size]; exact s1) hQ
 unfold vcGuard at h
 split at h
 ·rename_i hg
  exact yes st1 f1 h (by simp [Region.wanted,hg])
 ·rename_i j want hg
  split at h
  ·exact h.elim
  ·rename_i d hj
   obtain ⟨β,R,hfb⟩ := f1
   have hv := hfb.vals d
   split at h
   ·rename_i b hb
    rw [ite_both] at h
    rw [hb] at hv
    have hval := getD_some (rep_bool (srep_v hv)) (by simp [undef])
    have hy : yielded ops a1.tmps j = some b := by
     unfold yielded
     rw [show (ops[j]?).bind (·.dst) = some d from hj]
     simp [hval]
    by_cases e : b = want
    ·subst e
     have hst : ({ st1 with vals := upd st1.vals d (.v (.bool b)) } : St) = st1 := by rw [← hb,upd_self]
     have h1 := h.1 rfl
     rw [hst] at h1
     exact yes st1 ⟨β,R,hfb⟩ h1 (by simp [Region.wanted,hg,hy])
    ·have e' : b = !want := by cases b <;> cases want <;> simp_all
     have hst : ({ st1 with vals := upd st1.vals d (.v (.bool !want)) } : St) = st1 := by rw [← e',← hb,upd_self]
     have h2 := h.2 e'
     rw [hst] at h2
     exact no st1 ⟨β,R,hfb⟩ h2 (by simp [Region.wanted,hg,hy,e'])
   ·rename_i hb
    rw [hb] at hv
    have hval := rep_nilundef (srep_v hv)
    have hy : yielded ops a1.tmps j = none := by
     unfold yielded
     rw [show (ops[j]?).bind (·.dst) = some d from hj]
     by_cases hlt : d < a1.tmps.size
     ·have : a1.tmps[d]? = some undef := by
       rw [Array.getElem?_eq_getElem hlt]
       simp [Array.getD,hlt] at hval
       rw [hval]
      simp [this,undef]
     ·simp [Array.getElem?_eq_none (Nat.le_of_not_lt hlt)]
    exact no st1 ⟨β,R,hfb⟩ h (by simp [Region.wanted,hg,hy])
   ·exact h.elim
theorem acut_keepG_at (k : Nat) (hE : EnvOk E) {ops : Array Oper} {K : St → Prop} {α : Type} {o : Oper} {post : List Oper} {x : Operand} (hops : ops.toList.drop k = o :: post) (hop : o.op = .move x) (I : α → Head) (J : α → Prop) (hok : ∀ x,(I x).ok = true)
  (h : vcOps E ops (ops.toList.take k) (fun st1 => vcGuard ops o.guard (fun st1 => (∀ i,¬ (st1.sv E.T o.type x).refs i) ∧ vcOps E ops post (fun st' => ∃ x,J x ∧ Fits st' (I x)) (st1.put o.dst (st1.sv E.T o.type x) false))
   (fun st1 => vcOps E ops post (fun st' => ∃ x,J x ∧ Fits st' (I x)) (st1.put o.dst undefS false)) st1) st) (hk : ∀ x,J x → K (I x).st) : ACut E n ops K st .mk :=
 acut_keepG hE (ops.toList.take k) o post x (by rw [← hops,List.take_append_drop]) hop I J hok h hk
end
end Go.Proofs.YtnfmmhmfbipkjaaGreat.Abs
/- What was,as it is handed over to the statement about answers. -/
namespace Go.Proofs.YtnfmmhmfbipkjaaGreat.Abs
set_option linter.unusedSimpArgs false
open Go Go.RowKit Go.Proofs
set_option maxRecDepth 100000
theorem cells_u8 : Tryz.prog.cellsOf 5 = 1 := by kernel_rfl
theorem open_u8s {l : List AV} (h : GoodT Tryz.prog 52 l) : ∃ ys : List Nat,l = [.slice 1 (u8s ys)] ∧ ∀ x ∈ ys,x < 256 := by
 obtain ⟨ys,hys,_,_,hy,_⟩ := h.slice_inv Tryz.underlying52 (fun (n : Nat) => AV.int .u8 n) (fun n => n < 256) fun l hl => by
  obtain ⟨n,h1,h2,h3⟩ := hl.int_inv Tryz.underlying5
  obtain ⟨k,rfl,hk⟩ := wf_u8 h3
  exact ⟨k,hk,h2⟩
 rw [cells_u8] at hys
 exact ⟨ys,hys,hy⟩
theorem open_past6 {l : List AV} (h : GoodT Tryz.prog 56 l) : ∃ (n : Nat) (ys ws ls : List Nat),n < 65536 ∧ (∀ x ∈ ys,x < 256) ∧ (∀ x ∈ ws,x < 256) ∧ (∀ x ∈ ls,x < 256) ∧ packT Tryz.prog 56 l = .agg [.int .u16 n,.slice 1 (u8s ys),.slice 1 (u8s ws),.slice 1 (u8s ls)] := by
 obtain ⟨ss,hl,hp,hf⟩ := h.struct_inv Tryz.underlying56
 obtain ⟨ts,htl,_,htf⟩ := (hf 0 _ rfl).struct_inv Tryz.underlying54
 obtain ⟨a,ha,_,haw⟩ := (htf 0 _ rfl).int_inv Tryz.underlying51
 obtain ⟨k,rfl,hk⟩ := wf_u16 haw
 obtain ⟨ys,hys,hy⟩ := open_u8s (htf 1 _ rfl)
 obtain ⟨ws,hws,hw⟩ := open_u8s (hf 1 _ rfl)
 obtain ⟨ls,hls,hll⟩ := open_u8s (hf 2 _ rfl)
 refine ⟨k,ys,ws,ls,hk,hy,hw,hll,?_⟩
 rw [hp,hl]
 show AV.agg ((List.range 3).flatMap ss) = _
 rw [range3]
 simp only [List.flatMap_cons,List.flatMap_nil,htl,hws,hls]
 show AV.agg (((List.range 2).flatMap ts) ++ _) = _
 rw [range2]
 simp only [List.flatMap_cons,List.flatMap_nil,ha,hys]
 rfl
theorem plain56 : (Tryz.prog.readableRec 56 = true ∧ 56 < Tryz.prog.types.size) ∧ plainT Tryz.prog 9 56 = true := ⟨⟨by kernel_rfl,of_decide_eq_true (by kernel_rfl)⟩,by kernel_rfl⟩
theorem turn6_c (l : List Nat) (hl : ∀ x ∈ l,x < 256) (n : Nat) : PCall Tryz.prog 83 [.slice 1 (u8s l),.int .i64 n] (.int .i64 (turnN l n)) := by
  intro m
  have e0 : turnN l n = if l.length = 0 then 0 else l[n % l.length]! := rfl
  have hat := fun (q : 0 < l.length) => hl (l[n % l.length]!) (by rw [getD_any (Nat.mod_lt _ q)]; exact List.getElem_mem _)
  have hm := fun (q : 0 < l.length) => Nat.mod_lt n q
  have he : ((n : Int) % (l.length : Int)) = ((n % l.length : Nat) : Int) := (Int.natCast_emod n l.length).symm
  (refine acall_intro (E := envC (modeAt [] []) false []) (envCOk _ _ _) rfl Tryz.func83 rfl Tryz.call83 (by kernel_rfl) (by simp [Tryz.ntmps83]) ?_; simp only [Tryz.f83];  simp(maxSteps:=9^9)only[↓VX,VQ,seval,Int.reduceEq,↓ixU8,u8s_length,he])
  repeat'(first|intro _|apply And.intro)
  all_goals try first|omega|(simp only[LL];omega)|exact nlC (by decide) _|exact nbC rfl
  all_goals first
    | (rw [e0,if_pos (by omega)]; rfl; done)
    | (rw [e0,if_neg (by omega)]; done)
    | (have := hat (by omega); omega)
theorem turnN_lt {l : List Nat} (hl : ∀ x ∈ l,x < 256) (n : Nat) : turnN l n < 256 := by
  unfold turnN
  split
  · decide
  · rename_i q
    have hm := Nat.mod_lt n (show 0 < l.length by omega)
    rw [getD_any hm]; exact hl _ (List.getElem_mem hm)
theorem natMod2 (a : Nat) : ((a : Int) % 2) = ((a % 2 : Nat) : Int) := (Int.natCast_emod a 2).symm
def wordsTT (b : RBook) (all : List Int) (i : Nat) : List Int := (idxTo all i).map fun j => b.words[j]!
theorem wordsTT_succ (b : RBook) (all : List Int) (i : Nat) : wordsTT b all (i + 1) = if 0 ≤ all[i]! then wordsTT b all i ++ [b.words[i]!] else wordsTT b all i := by
  unfold wordsTT; rw [idxTo_succ]; split <;> simp
theorem wordsTT_length (b : RBook) (all : List Int) (i : Nat) : (wordsTT b all i).length ≤ i := by unfold wordsTT; rw [List.length_map]; exact idxTo_length _ _
theorem got_succ (b : RBook) (f : List Fate) (all : List Int) (ls : List Nat) (k : Nat) (h : (gotTo b f all ls k).length < b.answers.length) : gotTo b f all ls (k + 1) = if okT6 b f all ls k = true then gotTo b f all ls k ++ [k] else gotTo b f all ls k := by
  show (if _ then _ else _) = _
  rw [if_pos h]
theorem got_stop {b : RBook} {f : List Fate} {all : List Int} {ls : List Nat} {k : Nat} (h : b.answers.length ≤ (gotTo b f all ls k).length) : ∀ n,k ≤ n → gotTo b f all ls n = gotTo b f all ls k
  | 0,hn => by rw [show k = 0 by omega]
  | n + 1,hn => by
    by_cases q : k = n + 1
    · rw [q]
    · have ih := got_stop h n (by omega)
      show (if _ then _ else _) = _
      rw [ih,if_neg (by omega)]
theorem wordsTo_succ (W : Int) (ws : List Nat) (k n : Nat) : wordsTo W ws k (n + 1) = if someW W ws k n = true then wordsTo W ws k n + 2 ^ n else wordsTo W ws k n := rfl
theorem told6_c (b : RBook) (e : (checkB b).2.2 = 0) (n : Nat) (hn : n < 65536) (ys ws ls : List Nat) (hy : ∀ x ∈ ys,x < 256) (hw : ∀ x ∈ ws,x < 256) (hl : ∀ x ∈ ls,x < 256) :
    PCall Tryz.prog 34 [bookA b,.agg [.int .u16 n,.slice 1 (u8s ys),.slice 1 (u8s ws),.slice 1 (u8s ls)]]
      (.tuple [bookA (toldB b (realF b.harb n) (realTo b.harb (realF b.harb n) ys b.harb.letters.length) ws ls),fatesA (realF b.harb n),ints (ownTo (realTo b.harb (realF b.harb n) ys b.harb.letters.length) (realTo b.harb (realF b.harb n) ys b.harb.letters.length).length),ints (gotI b (realF b.harb n) (realTo b.harb (realF b.harb n) ys b.harb.letters.length) ls)]) := by
  intro m
  have hb := bok_check e
  have hnl := hb.h.nl
  have hwn := hb.w
  have hbk := hb.back
  have hna := hb.n
  have r1 := real_c b.harb hb.h n hn ys hy
  have w := real_went (check_harb e) n ys
  generalize realF b.harb n = f at *
  generalize realTo b.harb f ys b.harb.letters.length = all at *
  have hal := w.n
  have t1 := told_c b.harb (check_harb e) f all w
  have hth := hok_check (told_check (check_harb e) w)
  have hfk := went_fok (check_harb e) w
  have hfn := hfk.n
  obtain ⟨o1,o2⟩ := own_n e w
  have hol := ownTo_length all all.length
  have hday := fun (s : Nat) (q : s < b.harb.ships.length) (p : Int) => refday_c (toldH b.harb f all) hth f s p q (by omega) (hfk.late s (by omega))
  have hdr := fun (s : Nat) (q : s < b.harb.ships.length) (p : Int) => went_day (check_harb e) w q p
  have hown := fun (k : Nat) (q : k < (idxTo all all.length).length) => (told_own (check_harb e) w q).2
  have hwd := fun (k : Nat) (q : k < (idxTo all all.length).length) => toldB_words e w q
  have hbt := fun (W i : Int) (q1 : 0 ≤ W) (q2 : W ≤ 31) (q3 : i ≤ 5) => bit_c W i q1 (by omega) (by omega)
  have tw := fun k => turn6_c ws hw k
  have tl := fun k => turn6_c ls hl k
  have twl := fun k => turnN_lt hw k
  have tll := fun k => turnN_lt hl k
  have hdt : ∀ k,dayT b f all k = dayR (toldH b.harb f all) f ((ownTo all all.length)[k]!).toNat ((toldH b.harb f all).letters[k]!).port := fun k => rfl
  have hct : ∀ k,cameT b f all ls k = dayT b f all k + b.back + (turnN ls k % 4 : Nat) := fun k => rfl
  have hzb : bookA (toldB b f all ws ls) = .agg [.int .i64 (toldH b.harb f all).ports,.int .i64 (toldH b.harb f all).lost,.slice 5 ((toldH b.harb f all).ships.map shipA),.slice 3 ((toldH b.harb f all).letters.map letA),.slice 4 ((toldH b.harb f all).reports.map repA),.slice 1 ((wordsTT b all all.length).map (AV.int .i64)),.int .i64 b.back,.slice 3 (((gotT b f all ls).map (ansT b f all ws ls)).map ansA)] := rfl
  rw [hzb]
  clear hzb
  have hwT : wordsT b all = wordsTT b all all.length := rfl
  have hwTl : (wordsTT b all all.length).length = (idxTo all all.length).length := List.length_map _
  simp only [bookA,bookL,harbA,harbL,List.cons_append,List.nil_append,ints,fatesA] at *
  (refine acall_intro (E := envC (modeAt [4,8,11] []) false [16]) (envCOk _ _ _) rfl Tryz.func34 rfl Tryz.call34 (by kernel_rfl) (by simp [Tryz.ntmps34]) ?_; simp only [Tryz.f34];  simp(maxSteps:=9^9)only[↓VX,VQ,seval,Int.reduceEq])
  ((refine ACall.pure (r1) ?_; try simp(maxSteps:=9^9)only[↓VX,VQ,seval]); try simp(maxSteps:=9^9)only[↓VX,VQ,seval,GL])
  ((refine ACall.pure (t1) ?_; try simp(maxSteps:=9^9)only[↓VX,VQ,seval]); try simp(maxSteps:=9^9)only[↓VX,VQ,seval,GL])
  repeat'(first|intro _|apply And.intro)
  all_goals try first|omega|(simp only[LL];omega)|exact nlC (by decide) _|exact nbC rfl
  refine aloop (envCOk _ _ _) (fun i : Nat => ⟨[(2,.v (.eptr [.int .i64 b.harb.ports,.int .i64 b.harb.lost,.slice 5 (b.harb.ships.map shipA),.slice 3 (b.harb.letters.map letA),.slice 4 (b.harb.reports.map repA),.slice 1 (b.words.map (AV.int .i64)),.int .i64 b.back,.slice 3 (b.answers.map ansA)])),(3,.v (.eptr [.int .u16 n,.slice 1 (u8s ys),.slice 1 (u8s ws),.slice 1 (u8s ls)])),(4,.loc 4 0),(8,.loc 8 0),(9,.v (.slice 2 (f.map fateA))),(10,.v (.slice 1 (all.map (AV.int .i64)))),(11,.loc 11 0),(12,.v (.slice 1 ((ownTo all all.length).map (AV.int .i64)))),(13,.v (.int .i64 i))],[],[(4,[.int .i64 0,.int .i64 0,.slice 5 [],.slice 3 [],.slice 4 [],.slice 1 [],.int .i64 0,.slice 3 []]),(8,[.int .i64 b.harb.ports,.int .i64 b.harb.lost,.slice 5 (b.harb.ships.map shipA),.slice 3 (b.harb.letters.map letA),.slice 4 (b.harb.reports.map repA)]),(11,[.int .i64 (toldH b.harb f all).ports,.int .i64 (toldH b.harb f all).lost,.slice 5 ((toldH b.harb f all).ships.map shipA),.slice 3 ((toldH b.harb f all).letters.map letA),.slice 4 ((toldH b.harb f all).reports.map repA),.slice 1 ((wordsTT b all i).map (AV.int .i64)),.int .i64 b.back,.slice 3 (b.answers.map ansA)])],m⟩)
    (fun i => i ≤ all.length) (fun i => all.length - i) 0 (fun _ => rfl) (by simp) (by (simp only [FE,↓FP,seval]); try simp [wordsTT,idxTo]) ?_
  intro i hi
  have wsi := wordsTT_succ b all i
  have wli := wordsTT_length b all i
  simp(maxSteps:=9^9)only[↓VX,VQ,seval]
  repeat'(first|intro _|apply And.intro)
  all_goals try first|omega|(simp only[LL];omega)|exact nlC (by decide) _|exact nbC rfl
  · have q : 0 ≤ all[i]! := by assumption
    rw [if_pos q] at wsi
    (refine adraw (by first | exact envOk _ | exact envCOk _ _ _) mixed [⟨false,false,0⟩,⟨false,false,0⟩,⟨false,false,0⟩,⟨false,true,0⟩,⟨false,false,0⟩,⟨false,false,0⟩,⟨false,false,0⟩,⟨false,false,0⟩,⟨false,false,0⟩,⟨false,false,0⟩,⟨false,true,0⟩,⟨false,false,0⟩,⟨false,false,0⟩] (by kernel_rfl) ?_; show vcOpsD _ _ _ (_ :: _) _ _)
    simp(maxSteps:=9^9)only[↓VX,VQ,seval]
    repeat'(first|intro _|apply And.intro)
    all_goals try first|omega|(simp only[LL];omega)|exact nlC (by decide) _|exact nbC rfl
    (refine ⟨i + 1,by first | omega | (dsimp only; omega),by dsimp only; omega,?_⟩; (simp only [FE,↓FP,seval]); try simp [wsi])
  · have q : ¬ 0 ≤ all[i]! := by assumption
    rw [if_neg q] at wsi
    (refine ⟨i + 1,by first | omega | (dsimp only; omega),by dsimp only; omega,?_⟩; (simp only [FE,↓FP,seval]); try simp [wsi])
  have hie : i = all.length := by omega
  subst hie
  clear wsi
  refine aloop (envCOk _ _ _) (fun k : Nat => ⟨[(2,.v (.eptr [.int .i64 b.harb.ports,.int .i64 b.harb.lost,.slice 5 (b.harb.ships.map shipA),.slice 3 (b.harb.letters.map letA),.slice 4 (b.harb.reports.map repA),.slice 1 (b.words.map (AV.int .i64)),.int .i64 b.back,.slice 3 (b.answers.map ansA)])),(3,.v (.eptr [.int .u16 n,.slice 1 (u8s ys),.slice 1 (u8s ws),.slice 1 (u8s ls)])),(4,.loc 4 0),(8,.loc 8 0),(9,.v (.slice 2 (f.map fateA))),(10,.v (.slice 1 (all.map (AV.int .i64)))),(11,.loc 11 0),(12,.v (.slice 1 ((ownTo all all.length).map (AV.int .i64)))),(14,.v (.slice 3 (b.answers.map ansA))),(15,.v (.slice 1 (((gotTo b f all ls k).map fun (j : Nat) => (j : Int)).map (AV.int .i64)))),(16,.v (.int .i64 k))],[15],[(4,[.int .i64 0,.int .i64 0,.slice 5 [],.slice 3 [],.slice 4 [],.slice 1 [],.int .i64 0,.slice 3 []]),(8,[.int .i64 b.harb.ports,.int .i64 b.harb.lost,.slice 5 (b.harb.ships.map shipA),.slice 3 (b.harb.letters.map letA),.slice 4 (b.harb.reports.map repA)]),(11,[.int .i64 (toldH b.harb f all).ports,.int .i64 (toldH b.harb f all).lost,.slice 5 ((toldH b.harb f all).ships.map shipA),.slice 3 ((toldH b.harb f all).letters.map letA),.slice 4 ((toldH b.harb f all).reports.map repA),.slice 1 ((wordsTT b all all.length).map (AV.int .i64)),.int .i64 b.back,.slice 3 (((gotTo b f all ls k).map (ansT b f all ws ls)).map ansA)])],m⟩)
    (fun k => k ≤ (ownTo all all.length).length) (fun k => (ownTo all all.length).length - k) 0 (fun _ => rfl) (by simp) (by (simp only [FE,↓FP,seval]); try simp [gotTo]) ?_
  clear hi
  intro k hk
  have gl := got_length (b := b) (f := f) (all := all) (ls := ls) k
  refine acut_keepG_at 5 (envCOk _ _ _) rfl rfl (fun (c : Bool) => ⟨[(2,.v (.eptr [.int .i64 b.harb.ports,.int .i64 b.harb.lost,.slice 5 (b.harb.ships.map shipA),.slice 3 (b.harb.letters.map letA),.slice 4 (b.harb.reports.map repA),.slice 1 (b.words.map (AV.int .i64)),.int .i64 b.back,.slice 3 (b.answers.map ansA)])),(3,.v (.eptr [.int .u16 n,.slice 1 (u8s ys),.slice 1 (u8s ws),.slice 1 (u8s ls)])),(4,.loc 4 0),(8,.loc 8 0),(9,.v (.slice 2 (f.map fateA))),(10,.v (.slice 1 (all.map (AV.int .i64)))),(11,.loc 11 0),(12,.v (.slice 1 ((ownTo all all.length).map (AV.int .i64)))),(14,.v (.slice 3 (b.answers.map ansA))),(15,.v (.slice 1 (((gotTo b f all ls k).map fun (j : Nat) => (j : Int)).map (AV.int .i64)))),(16,.v (.int .i64 k)),(78,.v (.bool c))],[15],[(4,[.int .i64 0,.int .i64 0,.slice 5 [],.slice 3 [],.slice 4 [],.slice 1 [],.int .i64 0,.slice 3 []]),(8,[.int .i64 b.harb.ports,.int .i64 b.harb.lost,.slice 5 (b.harb.ships.map shipA),.slice 3 (b.harb.letters.map letA),.slice 4 (b.harb.reports.map repA)]),(11,[.int .i64 (toldH b.harb f all).ports,.int .i64 (toldH b.harb f all).lost,.slice 5 ((toldH b.harb f all).ships.map shipA),.slice 3 ((toldH b.harb f all).letters.map letA),.slice 4 ((toldH b.harb f all).reports.map repA),.slice 1 ((wordsTT b all all.length).map (AV.int .i64)),.int .i64 b.back,.slice 3 (((gotTo b f all ls k).map (ansT b f all ws ls)).map ansA)])],m⟩)
    (fun c => c = (decide (k < (ownTo all all.length).length) && decide ((gotTo b f all ls k).length < b.answers.length))) (fun _ => rfl) ?_ ?_
  · show vcOps _ _ (_ :: _) _ _
    simp(maxSteps:=9^9)only[↓VX,VQ,seval,List.take_succ_cons,List.take_zero,SV.refs,not_false_eq_true,implies_true,vcGuard]
    repeat'(first|intro _|apply And.intro)
    all_goals try first|omega|(simp only[LL];omega)|exact nlC (by decide) _|exact nbC rfl
    all_goals
      refine ⟨_,rfl,?_⟩
      (simp only [FE,↓FP,seval])
      first
        | (have q : k < (ownTo all all.length).length := by omega
           simp [q]; done)
        | (have q : ¬ k < (ownTo all all.length).length := by omega
           simp [q]; done)
  rintro c hc
  cases c with
  | false =>
    simp(maxSteps:=9^9)only[↓VX,VQ,seval]
    repeat'(first|intro _|apply And.intro)
    all_goals try first|omega|(simp only[LL];omega)|exact nlC (by decide) _|exact nbC rfl
    have hs : gotTo b f all ls (ownTo all all.length).length = gotTo b f all ls k := by
      by_cases q : k = (ownTo all all.length).length
      · rw [q]
      · refine got_stop ?_ _ hk
        have : k < (ownTo all all.length).length := by omega
        rw [decide_eq_true this,Bool.true_and] at hc
        have := of_decide_eq_false hc.symm
        omega
    unfold gotI gotT
    rw [hs]
  | true =>
    have hc := hc.symm
    rw [Bool.and_eq_true,decide_eq_true_eq,decide_eq_true_eq] at hc
    obtain ⟨c1,c2⟩ := hc
    have gs := got_succ b f all ls k c2
    have c3 : k < (idxTo all all.length).length := by omega
    have c4 : k < (toldH b.harb f all).letters.length := by omega
    obtain ⟨w1,w2⟩ := hown k c3
    have hrg := hdr ((ownTo all all.length)[k]!).toNat w2 ((toldH b.harb f all).letters[k]!).port
    have d1 := hday ((ownTo all all.length)[k]!).toNat w2 ((toldH b.harb f all).letters[k]!).port
    rw [← w1,← hdt k] at d1
    have hrg : -1 ≤ dayT b f all k ∧ dayT b f all k ≤ 43 := hrg
    have tlk := tl k
    have tlr := tll k
    have wdk := hwd k c3
    rw [hwT] at wdk
    have hok6 : okT6 b f all ls k = (decide (0 ≤ dayT b f all k) && decide (dayT b f all k + b.back + (turnN ls k % 4 : Nat) ≤ 60)) := rfl
    have hans : ansT b f all ws ls k = ⟨((toldH b.harb f all).letters[k]!).port,wordsK ((wordsTT b all all.length)[k]!) ws k,dayT b f all k + b.back + (turnN ls k % 4 : Nat)⟩ := rfl
    have hm4 := natMod4 (turnN ls k)
    have hm4l : turnN ls k % 4 < 4 := Nat.mod_lt _ (by decide)
    generalize turnN ls k = TL at *
    generalize TL % 4 = T4 at *
    generalize dayT b f all k = D at *
    clear hday hdr hown hdt hct hwd tl
    simp(maxSteps:=9^9)only[↓VX,VQ,seval]
    repeat'(first|intro _|apply And.intro)
    all_goals try first|omega|(simp only[LL];omega)|exact nlC (by decide) _|exact nbC rfl
    (refine adraw (by first | exact envOk _ | exact envCOk _ _ _) mixed [⟨false,false,0⟩,⟨false,false,0⟩,⟨false,false,0⟩,⟨false,false,0⟩,⟨false,false,0⟩,⟨false,false,0⟩,⟨false,false,0⟩,⟨false,false,0⟩,⟨false,false,0⟩,⟨false,false,0⟩] (by kernel_rfl) ?_; show vcOpsD _ _ _ (_ :: _) _ _)
    simp(maxSteps:=9^9)only[↓VX,VQ,seval]
    repeat'(first|intro _|apply And.intro)
    all_goals try first|omega|(simp only[LL];omega)|exact nlC (by decide) _|exact nbC rfl
    refine VPure.of d1 ?_
    simp(maxSteps:=9^9)only[↓VX,VQ,seval]
    repeat'(first|intro _|apply And.intro)
    all_goals try first|omega|(simp only[LL];omega)|exact nlC (by decide) _|exact nbC rfl
    (refine adraw (by first | exact envOk _ | exact envCOk _ _ _) mixed [⟨false,false,0⟩,⟨false,false,0⟩,⟨false,false,0⟩,⟨false,false,0⟩,⟨false,false,0⟩,⟨false,false,0⟩,⟨false,false,0⟩,⟨false,false,0⟩,⟨false,false,0⟩,⟨false,false,0⟩,⟨false,false,0⟩] (by kernel_rfl) ?_; show vcOpsD _ _ _ (_ :: _) _ _)
    simp(maxSteps:=9^9)only[↓VX,VQ,seval]
    repeat'(first|intro _|apply And.intro)
    all_goals try first|omega|(simp only[LL];omega)|exact nlC (by decide) _|exact nbC rfl
    refine VPure.of tlk ?_
    simp(maxSteps:=9^9)only[↓VX,VQ,seval,hm4]
    repeat'(first|intro _|apply And.intro)
    all_goals try first|omega|(simp only[LL];omega)|exact nlC (by decide) _|exact nbC rfl
    rotate_left
    · have ho : okT6 b f all ls k = true := by rw [hok6,decide_eq_true (by omega),decide_eq_true (by omega)]; rfl
      rw [if_pos ho] at gs
      have wts := wordsTo_succ ((wordsTT b all all.length)[k]!) ws k
      have hwk : wordsK ((wordsTT b all all.length)[k]!) ws k = if wordsTo ((wordsTT b all all.length)[k]!) ws k 5 = 0 then (wordsTT b all all.length)[k]! else wordsTo ((wordsTT b all all.length)[k]!) ws k 5 := rfl
      have wle := wordsTo_le ((wordsTT b all all.length)[k]!) ws k
      generalize hWk : (wordsTT b all all.length)[k]! = W at *
      generalize hP : ((toldH b.harb f all).letters[k]!).port = P at *
      refine aloop (envCOk _ _ _) (fun v : Nat => ⟨[(2,.v (.eptr [.int .i64 b.harb.ports,.int .i64 b.harb.lost,.slice 5 (b.harb.ships.map shipA),.slice 3 (b.harb.letters.map letA),.slice 4 (b.harb.reports.map repA),.slice 1 (b.words.map (AV.int .i64)),.int .i64 b.back,.slice 3 (b.answers.map ansA)])),(3,.v (.eptr [.int .u16 n,.slice 1 (u8s ys),.slice 1 (u8s ws),.slice 1 (u8s ls)])),(4,.loc 4 0),(8,.loc 8 0),(9,.v (.slice 2 (f.map fateA))),(10,.v (.slice 1 (all.map (AV.int .i64)))),(11,.loc 11 0),(12,.v (.slice 1 ((ownTo all all.length).map (AV.int .i64)))),(14,.v (.slice 3 (b.answers.map ansA))),(15,.v (.slice 1 (((gotTo b f all ls k).map fun (j : Nat) => (j : Int)).map (AV.int .i64)))),(16,.v (.int .i64 k)),(17,.v (.int .i64 P)),(19,.v (.int .i64 (D + b.back + T4))),(20,.v (.int .i64 (wordsTo W ws k v))),(21,.v (.int .i64 ((2 ^ v : Nat) : Int))),(22,.v (.int .i64 v))],[15],[(4,[.int .i64 0,.int .i64 0,.slice 5 [],.slice 3 [],.slice 4 [],.slice 1 [],.int .i64 0,.slice 3 []]),(8,[.int .i64 b.harb.ports,.int .i64 b.harb.lost,.slice 5 (b.harb.ships.map shipA),.slice 3 (b.harb.letters.map letA),.slice 4 (b.harb.reports.map repA)]),(11,[.int .i64 (toldH b.harb f all).ports,.int .i64 (toldH b.harb f all).lost,.slice 5 ((toldH b.harb f all).ships.map shipA),.slice 3 ((toldH b.harb f all).letters.map letA),.slice 4 ((toldH b.harb f all).reports.map repA),.slice 1 ((wordsTT b all all.length).map (AV.int .i64)),.int .i64 b.back,.slice 3 (((gotTo b f all ls k).map (ansT b f all ws ls)).map ansA)])],m⟩)
        (fun v => v ≤ 5) (fun v => 5 - v) 0 (fun _ => rfl) (by simp) (by (simp only [FE,↓FP,seval]); try simp [wordsTo]) ?_
      intro v hv
      have wtv := wts v
      have wlv := wle v
      have hp2 : 2 ^ v ≤ 2 ^ 5 := Nat.pow_le_pow_right (by decide) hv
      rw [show (2 : Nat) ^ 5 = 32 from rfl] at hp2
      have hpi : (2 : Int) ^ v = ((2 ^ v : Nat) : Int) := by rw [Int.natCast_pow]; rfl
      rw [hpi] at wlv wtv
      have hp3 : 2 ^ (v + 1) = 2 ^ v * 2 := Nat.pow_succ 2 v
      have hb1 := hbt W v (by omega) (by omega) (by omega)
      have tw1 := tw (k * 5 + v)
      have twl1 := twl (k * 5 + v)
      have hm2 := natMod2 (turnN ws (k * 5 + v))
      have hsw : someW W ws k v = (bitI W v && decide (turnN ws (k * 5 + v) % 2 = 1)) := rfl
      generalize turnN ws (k * 5 + v) = TW at *
      rw [Int.natCast_add,Int.natCast_mul] at tw1
      generalize someW W ws k v = SW at *
      generalize bitI W v = BI at *
      simp(maxSteps:=9^9)only[↓VX,VQ,seval,hWk]
      repeat'(first|intro _|apply And.intro)
      all_goals try first|omega|(simp only[LL];omega)|exact nlC (by decide) _|exact nbC rfl
      · (refine ACall.pure (hb1) ?_; try simp(maxSteps:=9^9)only[↓VX,VQ,seval,GL,hWk])
        repeat'(first|intro _|apply And.intro)
        all_goals try first|omega|(simp only[LL];omega)|exact nlC (by decide) _|exact nbC rfl
        · have qb : BI = true := by assumption
          rw [qb,Bool.true_and] at hsw
          (refine ACall.pure (tw1) ?_; try simp(maxSteps:=9^9)only[↓VX,VQ,seval,GL,hm2])
          repeat'(first|intro _|apply And.intro)
          all_goals try first|omega|(simp only[LL];omega)|exact nlC (by decide) _|exact nbC rfl
          · rw [decide_eq_true (by omega)] at hsw
            rw [hsw,if_pos rfl] at wtv
            refine ⟨v + 1,by dsimp only; omega,by dsimp only; omega,?_⟩
            (simp only [FE,↓FP,seval])
            rw [wtv,hp3]
            refine ⟨rfl,?_,?_⟩ <;> congr 2 <;> omega
          · rw [decide_eq_false (by omega)] at hsw
            rw [hsw,if_neg (by decide)] at wtv
            refine ⟨v + 1,by dsimp only; omega,by dsimp only; omega,?_⟩
            (simp only [FE,↓FP,seval])
            rw [wtv,hp3]
            refine ⟨rfl,?_,?_⟩ <;> congr 2 <;> omega
        · have qb : BI = false := by first | assumption | (rw [← Bool.not_eq_true]; assumption)
          rw [qb,Bool.false_and] at hsw
          rw [hsw,if_neg (by decide)] at wtv
          refine ⟨v + 1,by dsimp only; omega,by dsimp only; omega,?_⟩
          (simp only [FE,↓FP,seval])
          rw [wtv,hp3]
          refine ⟨rfl,?_,?_⟩ <;> congr 2 <;> omega
      · have hv5 : v = 5 := by omega
        subst hv5
        rw [if_pos (by assumption)] at hwk
        refine ⟨k + 1,by dsimp only; omega,by dsimp only; omega,?_⟩
        (simp only [FE,↓FP,seval])
        rw [gs]
        simp only [List.map_append,List.map_cons,List.map_nil,hans,hwk,ansA]
        simp [AV.cells,overlay]
      · have hv5 : v = 5 := by omega
        subst hv5
        rw [if_neg (by assumption)] at hwk
        refine ⟨k + 1,by dsimp only; omega,by dsimp only; omega,?_⟩
        (simp only [FE,↓FP,seval])
        rw [gs]
        simp only [List.map_append,List.map_cons,List.map_nil,hans,hwk,ansA]
        simp [AV.cells,overlay]
    all_goals
      have ho : okT6 b f all ls k = false := by
        rw [hok6]
        simp
        omega
      rw [ho,if_neg (by decide)] at gs
      refine ⟨k + 1,by dsimp only; omega,by dsimp only; omega,?_⟩
      (simp only [FE,↓FP,seval])
      rw [gs]
      simp
end Go.Proofs.YtnfmmhmfbipkjaaGreat.Abs
