/- Lemmas for the statements of this seat (U15): they hold without conditions beyond those that each one states. -/
import Derived.Test.YtnfmmhmfbipkjaaGreatU8
import Derived.Test.YtnfmmhmfbipkjaaGreatU7
import Derived.Test.YtnfmmhmfbipkjaaGreatU13
import Derived.Test.YtnfmmhmfbipkjaaGreatU3
/- Contracts: Come. -/
namespace Go.Proofs.YtnfmmhmfbipkjaaGreat.Abs
set_option linter.unusedSimpArgs false
open Go Go.RowKit Go.Proofs
set_option maxHeartbeats 4000000
set_option maxRecDepth 100000
def lexC : List Int → List Int → Int
 | [],[] => 0
 | [],_ :: _ => -1
 | _ :: _,[] => 1
 | x :: l,y :: l' => if x < y then -1 else if y < x then 1 else lexC l l'
def ordB (l b : List Int) : Bool := decide (b.length < l.length) || (decide (l.length = b.length) && decide (0 < lexC l b))
def allChoices (n : Nat) : List (List Int) := (List.range' 0 (n + 1)).flatMap (choicesL n)
structure Ranks (n : Nat) : Prop where
 a : ∀ c ∈ allChoices n,∃ s,s < 2 ^ n ∧ c = listTo s n
 b : ∀ s,s < 2 ^ n → listTo s n ∈ allChoices n
 c : ∀ s t,s < 2 ^ n → t < 2 ^ n → ordB (listTo s n) (listTo t n) = decide ((allChoices n).idxOf (listTo t n) < (allChoices n).idxOf (listTo s n))
def validB (h : RHarb) : Bool := decide ((checkH h).2.2 = 0)
def someB (h : RHarb) : Bool := validB h && okT h []
theorem some_check {h : RHarb} (e : someB h = true) : (checkH h).2.2 = 0 := by
 unfold someB validB at e
 rw [Bool.and_eq_true,decide_eq_true_eq] at e
 exact e.1
theorem some_truths {h : RHarb} (e : someB h = true) : truthsR h [] ≠ [] := fun q => by
 unfold someB okT at e
 rw [Bool.and_eq_true,decide_eq_true_eq,q] at e
 exact absurd e.2 (by decide)
theorem some_known {h : RHarb} (e : someB h = true) : knownR h 0 = (truthsR h [],0) := by
 unfold knownR
 rw [if_neg (by decide),if_neg (some_truths e)]
theorem index_in {c n b : Int} (hc : c = 0) (h : 0 ≤ n ∧ n ≤ b - 1) : indexE c n b = 0 := by
 unfold indexE
 rw [if_pos hc,if_neg (by rw [Bool.not_eq_true,offP_false]; exact h)]
theorem truths_at {h : RHarb} {but : List Int} {t : RTru} (e : t ∈ truthsR h but) {l : Nat} (hl : l < h.letters.length) : t.by_[l]! = couldL h t.fleet l but h.ships.length := by
 rw [truths_by e,byTo_at h _ _ hl]
theorem callsR_some {h : RHarb} (hs : someB h = true) {s : Nat} (hl : s < h.ships.length) {port : Int} (hp : 0 ≤ port ∧ port ≤ h.ports - 1) :
  callsR h s port = ((calledTo h (truthsR h []) s port (truthsR h []).length).1,settledR (calledTo h (truthsR h []) s port (truthsR h []).length).2 ((truthsR h []).length : Int),0) := by
 have e : (callsR h s port).2.2 = 0 := by
  unfold callsR
  simp only
  rw [index_in (some_check hs) ⟨by omega,by omega⟩,index_in (some_check hs) hp,if_pos rfl,some_known hs,if_pos rfl]
 rw [callsR_good e,Int.toNat_natCast]
theorem settled_must {a b : Int} : settledR a b = 1 ↔ a = b := by
 unfold settledR
 constructor
 ·intro q
  split at q
  ·assumption
  ·split at q <;> cases q
 ·intro q; rw [if_pos q]
theorem range_all {α : Type} [Inhabited α] (l : List α) (P : α → Bool) : ((List.range l.length).all fun i => P (l[i]!)) = l.all P := by
 rw [Bool.eq_iff_iff,List.all_eq_true,List.all_eq_true]
 constructor
 ·intro h x hx
  obtain ⟨i,hi,rfl⟩ := List.mem_iff_getElem.1 hx
  rw [← getD_any hi]
  exact h i (List.mem_range.2 hi)
 ·intro h i hi
  have hi := List.mem_range.1 hi
  rw [getD_any hi]
  exact h _ (List.getElem_mem hi)
theorem checkH_of {h : RHarb} (e : (offP 1 4 h.ports || offP 0 3 h.lost) = false ∧ h.ships.length ≤ 3 ∧ (shipsE h).2 = 0 ∧ h.letters.length ≤ 4 ∧ (lettersE h).2 = 0 ∧ h.reports.length ≤ 5 ∧ (reportsE h).2 = 0) : (checkH h).2.2 = 0 := by
 obtain ⟨e1,e2,e3,e4,e5,e6,e7⟩ := e
 unfold checkH
 rw [if_neg (by rw [e1]; decide),if_neg (by omega),if_neg (by omega),if_neg (by omega),if_neg (by omega),if_neg (by omega),if_neg (by omega)]
theorem reportsE_zero {h : RHarb} : (reportsE h).2 = 0 ↔ ∀ x ∈ h.reports,repErr h.ports h.ships.length h.letters.length x = 0 := by
 unfold reportsE
 rw [failFrom_zero]
 constructor
 ·intro q x hx
  obtain ⟨i,hi,rfl⟩ := List.mem_iff_getElem.1 hx
  exact q i hi
 ·intro q i hi
  exact q _ (List.getElem_mem hi)
/-! ### Choices by their order -/
def moreH (h : RHarb) (r : RRep) : RHarb := { h with reports := h.reports ++ [r] }
theorem said_list (h : RHarb) (l : List Fate) : saidB h l [] h.reports.length = h.reports.all fun r => !decide (r.kind < 2) || soB r (dayR h l r.of_.toNat r.port) := by
 rw [← range_all]
 unfold saidB
 refine congrArg (fun f => (List.range h.reports.length).all f) ?_
 funext i
 unfold ofS
 rw [decide_eq_true (by simp : (i : Int) ∉ ([] : List Int)),Bool.and_true]
theorem reps_list (h : RHarb) (l : List Fate) (k s : Nat) : repsB h l k [] s h.reports.length = h.reports.all fun r => !(decide (2 ≤ r.kind) && decide (r.of_ = (k : Int))) || soB r (dayR h l s (h.letters[k]!).port) := by
 rw [← range_all]
 unfold repsB
 refine congrArg (fun f => (List.range h.reports.length).all f) ?_
 funext i
 unfold ofB
 rw [decide_eq_true (by simp : (i : Int) ∉ ([] : List Int)),Bool.and_true]
theorem said_more {h : RHarb} {r : RRep} {l : List Fate} (e : saidB (moreH h r) l [] (moreH h r).reports.length = true) : saidB h l [] h.reports.length = true := by
 rw [said_list] at e ⊢
 have e : (h.reports ++ [r]).all (fun r => !decide (r.kind < 2) || soB r (dayR h l r.of_.toNat r.port)) = true := e
 rw [List.all_append,Bool.and_eq_true] at e
 exact e.1
theorem can_more {h : RHarb} {r : RRep} {l : List Fate} {k s : Nat} (e : canB (moreH h r) l k [] s = true) : canB h l k [] s = true := by
 unfold canB at e ⊢
 rw [reps_list] at e ⊢
 have e : (shipB h k s && (h.reports ++ [r]).all fun r => !(decide (2 ≤ r.kind) && decide (r.of_ = (k : Int))) || soB r (dayR h l s (h.letters[k]!).port)) = true := e
 rw [List.all_append,Bool.and_eq_true,Bool.and_eq_true] at e
 rw [Bool.and_eq_true]
 exact ⟨e.1,e.2.1⟩
theorem mem_could {h : RHarb} {l : List Fate} {k : Nat} {but : List Int} {n : Nat} {x : Int} : x ∈ couldL h l k but n ↔ ∃ s : Nat,x = s ∧ s < n ∧ canB h l k but s = true := by
 unfold couldL
 simp only [List.mem_map,List.mem_filter,List.mem_range]
 constructor
 ·rintro ⟨s,⟨h1,h2⟩,rfl⟩; exact ⟨s,rfl,h1,h2⟩
 ·rintro ⟨s,rfl,h1,h2⟩; exact ⟨s,⟨h1,h2⟩,rfl⟩
theorem could_more {h : RHarb} {r : RRep} {l : List Fate} {k n : Nat} {x : Int} (e : x ∈ couldL (moreH h r) l k [] n) : x ∈ couldL h l k [] n := by
 obtain ⟨s,h1,h2,h3⟩ := mem_could.1 e
 exact mem_could.2 ⟨s,h1,h2,can_more h3⟩
theorem mem_truths {h : RHarb} {but : List Int} {t : RTru} : t ∈ truthsR h but ↔ t.fleet ∈ fleetsR h.ships h.lost ∧ trueB h but t.fleet = true ∧ t = truOf h but t.fleet := by
 unfold truthsR
 simp only [List.mem_map,List.mem_filter]
 constructor
 ·rintro ⟨f,⟨h1,h2⟩,rfl⟩; exact ⟨h1,h2,rfl⟩
 ·rintro ⟨h1,h2,h3⟩; exact ⟨t.fleet,⟨h1,h2⟩,h3.symm⟩
theorem truOf_mem {h : RHarb} {but : List Int} {f : List Fate} (h1 : f ∈ fleetsR h.ships h.lost) (h2 : trueB h but f = true) : truOf h but f ∈ truthsR h but := mem_truths.2 ⟨h1,h2,rfl⟩
theorem true_more {h : RHarb} {r : RRep} {l : List Fate} (e : trueB (moreH h r) [] l = true) : trueB h [] l = true := by
 unfold trueB goB at e ⊢
 rw [Bool.and_eq_true] at e ⊢
 refine ⟨said_more e.1,?_⟩
 rw [List.all_eq_true]
 intro k hk
 have := List.all_eq_true.1 e.2 k hk
 have := of_decide_eq_true this
 obtain ⟨x,hx⟩ := List.exists_mem_of_ne_nil _ (List.length_pos_iff.1 this)
 exact decide_eq_true (List.length_pos_of_mem (could_more hx))
theorem truth_more {h : RHarb} {r : RRep} {t : RTru} (e : t ∈ truthsR (moreH h r) []) : ∃ t' ∈ truthsR h [],t'.fleet = t.fleet ∧ ∀ k,k < h.letters.length → ∀ x ∈ t.by_[k]!,x ∈ t'.by_[k]! := by
 obtain ⟨h1,h2,h3⟩ := mem_truths.1 e
 have hm := truOf_mem (h := h) (but := []) (f := t.fleet) h1 (true_more h2)
 refine ⟨_,hm,rfl,fun k hk x hx => ?_⟩
 have hk' : k < (moreH h r).letters.length := hk
 rw [truths_at e hk'] at hx
 rw [truths_at hm hk]
 exact could_more hx
theorem settled_never {a b : Int} (hb : 0 < b) : settledR a b = 2 ↔ a = 0 := by
 unfold settledR; split
 ·omega
 ·split <;> omega
theorem called_mem {h : RHarb} {s : Nat} {port : Int} (T : List RTru) : let c := calledTo h T s port T.length
  (c.2 = (T.length : Int) ↔ ∀ t ∈ T,0 ≤ dayR h t.fleet s port) ∧ (c.2 = 0 ↔ ∀ t ∈ T,dayR h t.fleet s port < 0) ∧ (c.2 = 0 → c.1 = (0,0)) ∧
  (c.2 ≠ 0 → (∀ t ∈ T,0 ≤ dayR h t.fleet s port → c.1.1 ≤ dayR h t.fleet s port ∧ dayR h t.fleet s port ≤ c.1.2) ∧
   (∃ t ∈ T,0 ≤ dayR h t.fleet s port ∧ c.1.1 = dayR h t.fleet s port) ∧ (∃ t ∈ T,0 ≤ dayR h t.fleet s port ∧ c.1.2 = dayR h t.fleet s port)) := by
 have hc := called_is h T s port T.length (Nat.le_refl _)
 have hall : ∀ P : RTru → Prop,(∀ i,i < T.length → P (T[i]!)) ↔ ∀ t ∈ T,P t := fun P => by
  constructor
  ·intro q t ht
   obtain ⟨i,hi,rfl⟩ := List.mem_iff_getElem.1 ht
   rw [← getD_any hi]; exact q i hi
  ·intro q i hi
   rw [getD_any hi]; exact q _ (List.getElem_mem hi)
 have hex : ∀ P : RTru → Prop,(∃ i,i < T.length ∧ P (T[i]!)) → ∃ t ∈ T,P t := fun P => by
  rintro ⟨i,hi,q⟩
  rw [getD_any hi] at q
  exact ⟨_,List.getElem_mem hi,q⟩
 simp only at hc ⊢
 obtain ⟨h1,h2,h3,h4⟩ := hc
 refine ⟨h1.trans (hall fun t => 0 ≤ dayR h t.fleet s port),h2.trans (hall fun t => dayR h t.fleet s port < 0),h3,fun q => ?_⟩
 obtain ⟨g1,g2,g3⟩ := h4 q
 exact ⟨(hall fun t => 0 ≤ dayR h t.fleet s port → (calledTo h T s port T.length).1.1 ≤ dayR h t.fleet s port ∧ dayR h t.fleet s port ≤ (calledTo h T s port T.length).1.2).1 g1,
  hex (fun t => 0 ≤ dayR h t.fleet s port ∧ (calledTo h T s port T.length).1.1 = dayR h t.fleet s port) g2,hex (fun t => 0 ≤ dayR h t.fleet s port ∧ (calledTo h T s port T.length).1.2 = dayR h t.fleet s port) g3⟩
theorem some_pos {h : RHarb} (e : someB h = true) : 0 < ((truthsR h []).length : Int) := by
 have := List.length_pos_iff.2 (some_truths e); omega
theorem byR_some {h : RHarb} (e : someB h = true) {l : Nat} (hl : l < h.letters.length) : byR h l = (metL (truthsR h []) l h.ships.length,0) := by
 unfold byR
 rw [index_in (some_check e) ⟨by omega,by omega⟩,some_known e]
 simp only [if_true]
 rfl
theorem mem_met {T : List RTru} {l n : Nat} {x : Int} : x ∈ metL T l n ↔ ∃ s : Nat,x = s ∧ s < n ∧ ∃ t ∈ T,(s : Int) ∈ t.by_[l]! := by
 unfold metL metB
 simp only [List.mem_map,List.mem_filter,List.mem_range,List.any_eq_true,decide_eq_true_eq]
 constructor
 ·rintro ⟨s,⟨h1,i,hi,h2⟩,rfl⟩
  rw [getD_any hi] at h2
  exact ⟨s,rfl,h1,_,List.getElem_mem hi,h2⟩
 ·rintro ⟨s,rfl,h1,t,ht,h2⟩
  obtain ⟨i,hi,rfl⟩ := List.mem_iff_getElem.1 ht
  exact ⟨s,⟨h1,i,hi,by rw [getD_any hi]; exact h2⟩,rfl⟩
theorem mem_ways_set {b : RBook} {t : RTru} {w : List Int} : w ∈ waysR b t ↔ w.length = b.answers.length ∧ (∀ a,a < b.answers.length → w[a]! = -1 ∨ ∃ k : Nat,k < b.harb.letters.length ∧ w[a]! = (k : Int) ∧ canR b t a k = true) ∧ ∀ i j,i < b.answers.length → j < b.answers.length → w[i]! = w[j]! → w[i]! ≠ -1 → i = j := by
 constructor
 ·intro h
  obtain ⟨h1,h2⟩ := mem_waysR.1 h
  refine ⟨h1,fun a ha => ?_,fun i j hi hj e hs => ways_once h (by omega) (by omega) e hs⟩
  rcases h2 a ha with q | ⟨k,k1,k2,_,k4⟩
  ·exact .inl q
  ·exact .inr ⟨k,k1,k2,k4⟩
 ·rintro ⟨h1,h2,h3⟩
  refine mem_waysR.2 ⟨h1,fun a ha => ?_⟩
  rcases h2 a ha with q | ⟨k,k1,k2,k4⟩
  ·exact .inl q
  ·refine .inr ⟨k,k1,k2,fun hm => ?_,k4⟩
   obtain ⟨i,hi,e⟩ := List.mem_take_iff_getElem.1 hm
   have hil : i < w.length := by omega
   have : i = a := h3 i a (by omega) ha (by rw [getD_any hil,e,k2]) (by rw [getD_any hil,e]; omega)
   omega
def backB (b : RBook) : RBook := { b with answers := b.answers.reverse }
theorem back_back (b : RBook) : backB (backB b) = b := by unfold backB; simp
theorem getD_rev {α : Type} [Inhabited α] {l : List α} {i : Nat} (h : i < l.length) : l.reverse[i]! = l[l.length - 1 - i]! := by
 rw [getD_any (by simpa using h),getD_any (by omega),List.getElem_reverse]
theorem back_n (b : RBook) : (backB b).answers.length = b.answers.length := List.length_reverse
theorem can_back {b : RBook} {t : RTru} {a k : Nat} (h : a < b.answers.length) : canR (backB b) t a k = canR b t (b.answers.length - 1 - a) k := by
 have e : (backB b).answers[a]! = b.answers[b.answers.length - 1 - a]! := getD_rev h
 unfold canR fitsB
 rw [e]; rfl
theorem ways_back {b : RBook} {t : RTru} {w : List Int} (h : w ∈ waysR b t) : w.reverse ∈ waysR (backB b) t := by
 obtain ⟨h1,h2,h3⟩ := mem_ways_set.1 h
 refine mem_ways_set.2 ⟨by rw [back_n,List.length_reverse,h1],fun a ha => ?_,fun i j hi hj e hs => ?_⟩
 ·rw [back_n] at ha
  rw [getD_rev (by omega),h1]
  rcases h2 (b.answers.length - 1 - a) (by omega) with q | ⟨k,k1,k2,k3⟩
  ·exact .inl q
  ·exact .inr ⟨k,k1,k2,by rw [can_back ha]; exact k3⟩
 ·rw [back_n] at hi hj
  rw [getD_rev (by omega),getD_rev (by omega),h1] at e
  rw [getD_rev (by omega),h1] at hs
  have := h3 _ _ (by omega) (by omega) e hs
  omega
theorem manyL_rev (w : List Int) : manyL w.reverse = manyL w := by
 unfold manyL
 rw [List.filter_reverse,List.length_reverse]
theorem back_bok {b : RBook} (hb : BOk b) : BOk (backB b) where
 h := hb.h
 w := hb.w
 word := hb.word
 back := hb.back
 n := by rw [back_n]; exact hb.n
 t := hb.t
 ans := by
  intro i hi
  rw [back_n] at hi
  have e : (backB b).answers[i]! = b.answers[b.answers.length - 1 - i]! := getD_rev hi
  rw [e]
  exact hb.ans _ (by omega)
theorem back_check {b : RBook} (q : (checkB b).2.2 = 0) : (checkB (backB b)).2.2 = 0 := check_bok (b := backB b) (check_harb (b := b) q) (back_bok (bok_check q))
theorem back_valid (b : RBook) : (checkB (backB b)).2.2 = 0 ↔ (checkB b).2.2 = 0 :=
 ⟨fun q => by have := back_check q; rwa [back_back] at this,back_check⟩
theorem least_back1 {b : RBook} (hb : BOk b) : leastR (backB b) ≤ leastR b := by
 obtain ⟨t,ht,w,hw,e⟩ := least_has hb
 have := least_le (b := backB b) ht (ways_back hw)
 rw [manyL_rev,e] at this
 exact this
theorem least_back {b : RBook} (hb : BOk b) : leastR (backB b) = leastR b := by
 have h1 := least_back1 hb
 have h2 := least_back1 (back_bok hb)
 rw [back_back] at h2
 omega
theorem fair_back1 {b : RBook} (hb : BOk b) {x : RTru × List Int} (h : x ∈ fairR b) : (x.1,x.2.reverse) ∈ fairR (backB b) := by
 obtain ⟨h1,h2,h3⟩ := fair_mem.1 h
 exact fair_mem.2 ⟨h1,ways_back h2,by rw [manyL_rev,h3,least_back hb]⟩
theorem fair_back {b : RBook} (hb : BOk b) (P : List Int → Prop) (hP : ∀ w,P w.reverse ↔ P w) : (∀ x ∈ fairR (backB b),P x.2) ↔ ∀ x ∈ fairR b,P x.2 := by
 constructor
 ·intro h x hx
  exact (hP _).1 (h _ (fair_back1 hb hx))
 ·intro h x hx
  have := fair_back1 (back_bok hb) hx
  rw [back_back] at this
  exact (hP _).1 (h _ this)
theorem ask_congr {α β : Type} {P : α → Bool} {Q : β → Bool} {F : List α} {G : List β} (hF : 0 < F.length) (hG : 0 < G.length) (h1 : (∀ x ∈ F,P x = true) ↔ ∀ x ∈ G,Q x = true) (h2 : (∀ x ∈ F,¬ P x = true) ↔ ∀ x ∈ G,¬ Q x = true) : (askF P F = 1 ↔ askF Q G = 1) ∧ (askF P F = 2 ↔ askF Q G = 2) := by
 rw [ask_all,ask_all,ask_none hF,ask_none hG]
 exact ⟨h1,h2⟩
theorem order_law {b : RBook} (q : (checkB b).2.2 = 0) : leastR (backB b) = leastR b ∧ waitsR (backB b) = waitsR b := by
 have hb := bok_check q
 have hb' := back_bok hb
 refine ⟨least_back hb,?_⟩
 rw [waitsR_is hb q,waitsR_is hb' (back_check q)]
 have key : ∀ k : Nat,(askF (fun x : RTru × List Int => !decide ((k : Int) ∈ x.2)) (fairR (backB b)) = 1 ↔ askF (fun x : RTru × List Int => !decide ((k : Int) ∈ x.2)) (fairR b) = 1) ∧ (askF (fun x : RTru × List Int => !decide ((k : Int) ∈ x.2)) (fairR (backB b)) = 2 ↔ askF (fun x : RTru × List Int => !decide ((k : Int) ∈ x.2)) (fairR b) = 2) := fun k =>
  ask_congr (fair_pos hb') (fair_pos hb) (fair_back hb (fun w => (!decide ((k : Int) ∈ w)) = true) fun w => by simp) (fair_back hb (fun w => ¬ (!decide ((k : Int) ∈ w)) = true) fun w => by simp)
 have e1 : (fun k : Nat => !decide (askF (fun x : RTru × List Int => !decide ((k : Int) ∈ x.2)) (fairR (backB b)) = 2)) = fun k : Nat => !decide (askF (fun x : RTru × List Int => !decide ((k : Int) ∈ x.2)) (fairR b) = 2) := by
  funext k; rw [Bool.eq_iff_iff]; simp only [Bool.not_eq_true',decide_eq_false_iff_not,(key k).2]
 have e2 : (fun k : Nat => decide (askF (fun x : RTru × List Int => !decide ((k : Int) ∈ x.2)) (fairR (backB b)) = 1)) = fun k : Nat => decide (askF (fun x : RTru × List Int => !decide ((k : Int) ∈ x.2)) (fairR b) = 1) := by
  funext k; rw [Bool.eq_iff_iff]; simp only [decide_eq_true_eq,(key k).1]
 rw [e1,e2]
 rfl
theorem map_at6 {α β : Type} [Inhabited α] [Inhabited β] {l : List α} (f : α → β) {i : Nat} (hi : i < l.length) : (l.map f)[i]! = f (l[i]!) := by
 rw [getD_any (by simpa using hi),getD_any hi]; simp
def laterA (y : Int) (a : RAns) : RAns := { a with day := min 60 (a.day + y) }
def soonerB (b : RBook) (x y : Int) : RBook := { b with back := max 1 (b.back - x),answers := b.answers.map (laterA y) }
theorem sooner_n (b : RBook) (x y : Int) : (soonerB b x y).answers.length = b.answers.length := List.length_map _
theorem sooner_at {b : RBook} {x y : Int} {a : Nat} (h : a < b.answers.length) : (soonerB b x y).answers[a]! = laterA y (b.answers[a]!) := map_at6 _ h
theorem sooner_bok {b : RBook} (hb : BOk b) {x y : Int} (hx : 0 ≤ x) (hy : 0 ≤ y) : BOk (soonerB b x y) where
 h := hb.h
 w := hb.w
 word := hb.word
 back := by
  have := hb.back
  show 1 ≤ max 1 (b.back - x) ∧ max 1 (b.back - x) ≤ 20
  omega
 n := by rw [sooner_n]; exact hb.n
 t := hb.t
 ans := by
  intro i hi
  rw [sooner_n] at hi
  rw [sooner_at hi]
  obtain ⟨h1,h2,h3⟩ := hb.ans i hi
  refine ⟨h1,h2,?_⟩
  show 0 ≤ min 60 ((b.answers[i]!).day + y) ∧ min 60 ((b.answers[i]!).day + y) ≤ 60
  omega
theorem sooner_check {b : RBook} (q : (checkB b).2.2 = 0) {x y : Int} (hx : 0 ≤ x) (hy : 0 ≤ y) : (checkB (soonerB b x y)).2.2 = 0 := check_bok (b := soonerB b x y) (check_harb (b := b) q) (sooner_bok (bok_check q) hx hy)
theorem until_mono {d u v : Int} (h : u ≤ v) (e : untilB d u = true) : untilB d v = true := by
 unfold untilB at e ⊢
 rw [Bool.and_eq_true,decide_eq_true_eq,decide_eq_true_eq] at e ⊢
 omega
theorem soon_mono {l : List Int} {u v : Int} (h : u ≤ v) (e : soonB l u = true) : soonB l v = true := by
 unfold soonB at e ⊢
 rw [List.any_eq_true] at e ⊢
 obtain ⟨d,hd,q⟩ := e
 exact ⟨d,hd,until_mono h q⟩
theorem can_sooner {b : RBook} (hb : BOk b) {x y : Int} (hx : 0 ≤ x) (hy : 0 ≤ y) {t : RTru} {a k : Nat} (ha : a < b.answers.length) (h : canR b t a k = true) : canR (soonerB b x y) t a k = true := by
 have e := sooner_at (x := x) (y := y) ha
 obtain ⟨_,_,h3⟩ := hb.ans a ha
 have h4 := hb.back
 unfold canR at h ⊢
 rw [Bool.and_eq_true] at h ⊢
 constructor
 ·have := h.1
  unfold fitsB at this ⊢
  rw [e]
  exact this
 ·refine soon_mono ?_ h.2
  rw [e]
  show (b.answers[a]!).day - b.back ≤ min 60 ((b.answers[a]!).day + y) - max 1 (b.back - x)
  omega
theorem ways_can {b z : RBook} {t u : RTru} (hn : z.answers.length = b.answers.length) (hl : z.harb.letters.length = b.harb.letters.length) (h : ∀ a k,a < b.answers.length → k < b.harb.letters.length → canR b t a k = true → canR z u a k = true) {w : List Int} (hw : w ∈ waysR b t) : w ∈ waysR z u := by
 obtain ⟨h1,h2⟩ := mem_waysR.1 hw
 refine mem_waysR.2 ⟨by omega,fun a ha => ?_⟩
 rcases h2 a (by omega) with q | ⟨k,k1,k2,k3,k4⟩
 ·exact .inl q
 ·exact .inr ⟨k,by omega,k2,k3,h a k (by omega) k1 k4⟩
theorem met_any (b : RBook) (T : List RTru) (a k : Nat) : metC b T a k T.length = T.any fun t => canR b t a k := any_range (fun t => canR b t a k) T
theorem mem_couldC {b : RBook} {T : List RTru} {a n : Nat} {x : Int} : x ∈ couldC b T a n ↔ ∃ k : Nat,x = k ∧ k < n ∧ ∃ t ∈ T,canR b t a k = true := by
 have e : couldC b T a n = idxF (fun k => metC b T a k T.length) n := rfl
 rw [e]
 constructor
 ·intro h
  have h' := h
  unfold idxF at h
  simp only [List.mem_map,List.mem_filter,List.mem_range] at h
  obtain ⟨k,⟨h1,h2⟩,rfl⟩ := h
  rw [met_any,List.any_eq_true] at h2
  exact ⟨k,rfl,h1,h2⟩
 ·rintro ⟨k,rfl,h1,h2⟩
  rw [mem_idxF,met_any,List.any_eq_true]
  exact ⟨h1,h2⟩
theorem could_ok {b : RBook} (q : (checkB b).2.2 = 0) {a : Nat} (ha : a < b.answers.length) : couldR b a = (couldC b (truthsR b.harb []) a b.harb.letters.length,0) := by
 unfold couldR
 rw [index_ok q (by omega),if_pos rfl,Int.toNat_natCast]
theorem sooner_law {b : RBook} (q : (checkB b).2.2 = 0) {x y : Int} (hx : 0 ≤ x) (hy : 0 ≤ y) : leastR (soonerB b x y) ≤ leastR b ∧
  ∀ a : Nat,a < b.answers.length → (couldR b a).2 = 0 ∧ (couldR (soonerB b x y) a).2 = 0 ∧ ((couldR b a).1.all fun v => decide (v ∈ (couldR (soonerB b x y) a).1)) = true := by
 have hb := bok_check q
 have hq := sooner_check q hx hy
 constructor
 ·obtain ⟨t,ht,w,hw,e⟩ := least_has hb
  have := least_le (b := soonerB b x y) (t := t) ht (ways_can (b := b) (z := soonerB b x y) (sooner_n b x y) rfl (fun a k ha _ h => can_sooner hb hx hy ha h) hw)
  omega
 ·intro a ha
  rw [could_ok q ha,could_ok hq (by rw [sooner_n]; exact ha)]
  refine ⟨rfl,rfl,?_⟩
  rw [List.all_eq_true]
  intro v hv
  refine decide_eq_true ?_
  obtain ⟨k,e,k1,t,ht,h⟩ := mem_couldC.1 hv
  exact mem_couldC.2 ⟨k,e,k1,t,ht,can_sooner hb hx hy ha h⟩
def heardB (b : RBook) (r : RRep) : RBook := { b with harb := moreH b.harb r }
theorem can_heard {b : RBook} {r : RRep} {t t' : RTru} {a k : Nat} (_hk : k < b.harb.letters.length) (e : t.fleet = t'.fleet) (h : ∀ x ∈ t'.by_[k]!,x ∈ t.by_[k]!) (c : canR (heardB b r) t' a k = true) : canR b t a k = true := by
 unfold canR at c ⊢
 rw [Bool.and_eq_true] at c ⊢
 refine ⟨c.1,?_⟩
 have c2 := c.2
 unfold soonB rowE at c2 ⊢
 rw [List.any_map,List.any_eq_true] at c2 ⊢
 obtain ⟨s,hs,q⟩ := c2
 refine ⟨s,h s hs,?_⟩
 rw [e]
 exact q
theorem heard_law {b : RBook} {r : RRep} (q : (checkB b).2.2 = 0) (q' : (checkB (heardB b r)).2.2 = 0) : leastR b ≤ leastR (heardB b r) ∧
  ∀ a : Nat,a < b.answers.length → (couldR b a).2 = 0 ∧ (couldR (heardB b r) a).2 = 0 ∧ ((couldR (heardB b r) a).1.all fun v => decide (v ∈ (couldR b a).1)) = true := by
 have hb' := bok_check q'
 constructor
 ·obtain ⟨t',ht,w,hw,e⟩ := least_has hb'
  obtain ⟨t,m1,m2,m3⟩ := truth_more (h := b.harb) (r := r) ht
  have := least_le (b := b) m1 (ways_can (b := heardB b r) (z := b) (u := t) rfl rfl (fun a k _ hk h => can_heard (b := b) (r := r) hk m2 (m3 k hk) h) hw)
  omega
 ·intro a ha
  have ha' : a < (heardB b r).answers.length := ha
  rw [could_ok q ha,could_ok q' ha']
  refine ⟨rfl,rfl,?_⟩
  rw [List.all_eq_true]
  intro v hv
  refine decide_eq_true ?_
  obtain ⟨k,e,k1,t',ht,h⟩ := mem_couldC.1 hv
  obtain ⟨t,m1,m2,m3⟩ := truth_more (h := b.harb) (r := r) ht
  exact mem_couldC.2 ⟨k,e,k1,t,m1,can_heard (b := b) (r := r) k1 m2 (m3 k k1) h⟩
/-! ### Days on which a letter came -/
def camDL (b : RBook) (F : List (RTru × List Int)) (k : Nat) : List Int := F.flatMap fun x => (rowE b.harb k x.1).filter fun d => fineB b x.2 k d
theorem camIn_fold (b : RBook) (w : List Int) (k : Nat) : ∀ (l : List Int) (s : RCam),l.foldl (fun s d => if fineB b w k d = true then camStep s d else s) s = (l.filter fun d => fineB b w k d).foldl camStep s
 | [],s => rfl
 | d :: l,s => by
  rw [List.foldl_cons,List.filter_cons]
  by_cases q : fineB b w k d = true
  ·rw [if_pos q,if_pos q,List.foldl_cons]; exact camIn_fold b w k l _
  ·rw [if_neg q,if_neg q]; exact camIn_fold b w k l _
theorem camTo_fold (b : RBook) (k : Nat) : ∀ (F : List (RTru × List Int)) (s : RCam),F.foldl (fun s x => camIn b x.2 k s (rowE b.harb k x.1) (rowE b.harb k x.1).length) s = (camDL b F k).foldl camStep s
 | [],s => rfl
 | x :: F,s => by
  rw [List.foldl_cons,camTo_fold b k F]
  unfold camDL
  rw [List.flatMap_cons,List.foldl_append]
  congr 1
  unfold camIn
  rw [List.take_length]
  exact camIn_fold b x.2 k _ s
theorem camTo_all (b : RBook) (F : List (RTru × List Int)) (k : Nat) : camTo b F k F.length = (camDL b F k).foldl camStep ⟨0,0,0,0⟩ := by
 unfold camTo
 rw [List.take_length]
 exact camTo_fold b k F _
theorem cam_all : ∀ (l : List Int) (s : RCam),(l.foldl camStep s).all = s.all + l.length
 | [],s => by simp
 | d :: l,s => by
  rw [List.foldl_cons,cam_all l]
  have : (camStep s d).all = s.all + 1 := by
   unfold camStep
   split
   ·rfl
   ·split <;> rfl
  rw [this,List.length_cons]
  omega
structure CamOk (l : List Int) (s : RCam) : Prop where
 yes : s.yes = ((l.filter fun d => decide (0 ≤ d)).length : Nat)
 lo : 0 < s.yes → s.lo ∈ l ∧ 0 ≤ s.lo
 hi : 0 < s.yes → s.hi ∈ l ∧ 0 ≤ s.hi
 all : ∀ d ∈ l,0 ≤ d → s.lo ≤ d ∧ d ≤ s.hi
theorem cam_step {l : List Int} {s : RCam} (h : CamOk l s) (d : Int) : CamOk (l ++ [d]) (camStep s d) := by
 obtain ⟨h1,h2,h3,h4⟩ := h
 have hf : ((l ++ [d]).filter fun d => decide (0 ≤ d)).length = (l.filter fun d => decide (0 ≤ d)).length + if 0 ≤ d then 1 else 0 := by
  rw [List.filter_append,List.length_append,List.filter_cons]
  by_cases q : 0 ≤ d
  ·rw [if_pos (decide_eq_true q),if_pos q]; rfl
  ·rw [if_neg (by rw [decide_eq_true_eq]; exact q),if_neg q]; rfl
 have hz : s.yes = 0 → ∀ e ∈ l,e < 0 := fun q e he => by
  have : (l.filter fun d => decide (0 ≤ d)).length = 0 := by omega
  have := List.filter_eq_nil_iff.1 (List.length_eq_zero_iff.1 this) e he
  rw [decide_eq_true_eq] at this
  omega
 unfold camStep
 split
 ·rename_i q
  rw [if_neg (by omega)] at hf
  refine ⟨by dsimp only; omega,fun w => ?_,fun w => ?_,fun e he h0 => ?_⟩
  ·exact ⟨List.mem_append_left _ (h2 w).1,(h2 w).2⟩
  ·exact ⟨List.mem_append_left _ (h3 w).1,(h3 w).2⟩
  ·rcases List.mem_append.1 he with he | he
   ·exact h4 e he h0
   ·rw [List.mem_singleton] at he; omega
 ·rename_i q
  rw [if_pos (by omega)] at hf
  split
  ·rename_i y
   refine ⟨by dsimp only; omega,fun _ => ?_,fun _ => ?_,fun e he h0 => ?_⟩
   ·exact ⟨by simp,by dsimp only; omega⟩
   ·exact ⟨by simp,by dsimp only; omega⟩
   ·rcases List.mem_append.1 he with he | he
    ·have := hz y e he; omega
    ·rw [List.mem_singleton] at he; dsimp only; omega
  ·rename_i y
   have hp : 0 < s.yes := by omega
   obtain ⟨a1,a2⟩ := h2 hp
   obtain ⟨b1,b2⟩ := h3 hp
   refine ⟨by dsimp only; omega,fun _ => ?_,fun _ => ?_,fun e he h0 => ?_⟩
   ·dsimp only
    rcases (show min s.lo d = s.lo ∨ min s.lo d = d by omega) with w | w <;> rw [w]
    ·exact ⟨List.mem_append_left _ a1,a2⟩
    ·exact ⟨by simp,by omega⟩
   ·dsimp only
    rcases (show max s.hi d = s.hi ∨ max s.hi d = d by omega) with w | w <;> rw [w]
    ·exact ⟨List.mem_append_left _ b1,b2⟩
    ·exact ⟨by simp,by omega⟩
   ·dsimp only
    rcases List.mem_append.1 he with he | he
    ·have := h4 e he h0; omega
    ·rw [List.mem_singleton] at he; omega
theorem cam_ok : ∀ (l p : List Int) (s : RCam),CamOk p s → CamOk (p ++ l) (l.foldl camStep s)
 | [],p,s,h => by simpa using h
 | d :: l,p,s,h => by
  have := cam_ok l (p ++ [d]) (camStep s d) (cam_step h d)
  rw [List.append_assoc] at this
  exact this
theorem came_is {b : RBook} {k : Nat} : CamOk (camDL b (fairR b) k) (camTo b (fairR b) k (fairR b).length) ∧ (camTo b (fairR b) k (fairR b).length).all = (camDL b (fairR b) k).length := by
 rw [camTo_all]
 constructor
 ·have := cam_ok (camDL b (fairR b) k) [] ⟨0,0,0,0⟩ ⟨rfl,fun h => absurd h (by decide),fun h => absurd h (by decide),fun _ h => by cases h⟩
  simpa using this
 ·rw [cam_all]; simp
theorem came_ok {b : RBook} (q : (checkB b).2.2 = 0) {k : Nat} (hk : k < b.harb.letters.length) : cameR b k = (camTo b (fairR b) k (fairR b).length,settledR (camTo b (fairR b) k (fairR b).length).yes (camTo b (fairR b) k (fairR b).length).all,0) := by
 unfold cameR
 rw [index_ok q (by omega),if_pos rfl,Int.toNat_natCast]
theorem mem_camDL {b : RBook} {k : Nat} {d : Int} : d ∈ camDL b (fairR b) k ↔ ∃ x ∈ fairR b,d ∈ rowE b.harb k x.1 ∧ fineB b x.2 k d = true := by
 unfold camDL
 simp only [List.mem_flatMap,List.mem_filter]
theorem fineTo_is {b : RBook} {w : List Int} {k : Nat} {d : Int} : ∀ n : Nat,(∀ i j,i < n → j < n → w[i]! = (k : Int) → w[j]! = (k : Int) → i = j) → (fineTo b w k d n = true ↔ ∀ a,a < n → w[a]! = (k : Int) → untilB d ((b.answers[a]!).day - b.back) = true)
 | 0,_ => by simp [fineTo]
 | n + 1,ho => by
  unfold fineTo
  by_cases q : w[n]! = (k : Int)
  ·rw [if_pos q]
   constructor
   ·intro h a ha e
    rw [ho a n ha (by omega) e q]; exact h
   ·intro h; exact h n (by omega) q
  ·rw [if_neg q,fineTo_is n fun i j hi hj => ho i j (by omega) (by omega)]
   constructor
   ·intro h a ha e
    by_cases w2 : a = n
    ·subst w2; exact absurd e q
    ·exact h a (by omega) e
   ·intro h a ha e; exact h a (by omega) e
theorem fine_is {b : RBook} {x : RTru × List Int} (hx : x ∈ fairR b) {k : Nat} {d : Int} : fineB b x.2 k d = true ↔ ∀ a,a < b.answers.length → x.2[a]! = (k : Int) → untilB d ((b.answers[a]!).day - b.back) = true :=
 fineTo_is b.answers.length fun _ _ hi hj h1 h2 => fair_once hx hi hj h1 h2
theorem cam_pos {b : RBook} (hb : BOk b) {k : Nat} (hk : k < b.harb.letters.length) : 0 < (camDL b (fairR b) k).length := by
 have hp := fair_pos hb
 have hx : (fairR b)[0]! ∈ fairR b := by rw [getD_any hp]; exact List.getElem_mem hp
 generalize (fairR b)[0]! = x at hx
 obtain ⟨h1,h2,h3⟩ := fair_mem.1 hx
 have : ∃ d ∈ rowE b.harb k x.1,fineB b x.2 k d = true := by
  by_cases q : ∃ a,a < b.answers.length ∧ x.2[a]! = (k : Int)
  ·obtain ⟨a,ha,e⟩ := q
   rcases (mem_waysR.1 h2).2 a ha with w | ⟨k',_,w2,_,w4⟩
   ·omega
   ·have : k = k' := by omega
    subst this
    unfold canR soonB at w4
    rw [Bool.and_eq_true,List.any_eq_true] at w4
    obtain ⟨d,hd,hu⟩ := w4.2
    refine ⟨d,hd,(fine_is hx).2 fun a' ha' e' => ?_⟩
    rw [fair_once hx ha' ha e' e]; exact hu
  ·obtain ⟨d,hd⟩ : ∃ d,d ∈ rowE b.harb k x.1 := by
    have h4 := (mem_truths.1 h1).2.1
    unfold trueB goB at h4
    rw [Bool.and_eq_true,List.all_eq_true] at h4
    have := of_decide_eq_true (h4.2 k (List.mem_range.2 hk))
    obtain ⟨s,hs⟩ := List.exists_mem_of_ne_nil _ (List.length_pos_iff.1 this)
    refine ⟨_,List.mem_map.2 ⟨s,?_,rfl⟩⟩
    rw [truths_at h1 hk]; exact hs
   exact ⟨d,hd,(fine_is hx).2 fun a ha e => absurd ⟨a,ha,e⟩ q⟩
 obtain ⟨d,hd,hf⟩ := this
 exact List.length_pos_of_mem (mem_camDL.2 ⟨x,hx,hd,hf⟩)
theorem b_some {b : RBook} (q : (checkB b).2.2 = 0) : someB b.harb = true := by
 unfold someB validB okT
 rw [decide_eq_true (check_harb q),decide_eq_true (List.length_pos_iff.2 (bok_check q).t)]; rfl
theorem cam_ship {b : RBook} (q : (checkB b).2.2 = 0) {k : Nat} (hk : k < b.harb.letters.length) {d : Int} (hd : d ∈ camDL b (fairR b) k) (h0 : 0 ≤ d) : ∃ s : Nat,s < b.harb.ships.length ∧ (s : Int) ∈ (byR b.harb k).1 ∧ (callsR b.harb s (b.harb.letters[k]!).port).2.1 ≠ 2 ∧ (callsR b.harb s (b.harb.letters[k]!).port).1.1 ≤ d ∧ d ≤ (callsR b.harb s (b.harb.letters[k]!).port).1.2 := by
 have hb := bok_check q
 have hsm := b_some q
 obtain ⟨x,hx,h1,_⟩ := mem_camDL.1 hd
 obtain ⟨t1,_,_⟩ := fair_mem.1 hx
 unfold rowE at h1
 obtain ⟨v,v1,v2⟩ := List.mem_map.1 h1
 have v3 := v1
 rw [truths_at t1 hk] at v3
 obtain ⟨s,rfl,s2,_⟩ := mem_could.1 v3
 rw [Int.toNat_natCast] at v2
 have hp := (hb.h.letter k hk).1
 have e1 := byR_some hsm hk
 have e2 := callsR_some hsm s2 hp
 refine ⟨s,s2,by rw [e1]; exact mem_met.2 ⟨s,rfl,s2,_,t1,v1⟩,?_⟩
 rw [e2]
 have a1 := called_mem (h := b.harb) (s := s) (port := (b.harb.letters[k]!).port) (truthsR b.harb [])
 have p1 := some_pos hsm
 obtain ⟨_,a2,_,a4⟩ := a1
 have hne : (calledTo b.harb (truthsR b.harb []) s (b.harb.letters[k]!).port (truthsR b.harb []).length).2 ≠ 0 := fun z => by
  have := a2.1 z _ t1
  omega
 have := (a4 hne).1 _ t1 (by omega)
 refine ⟨fun z => hne ((settled_never p1).1 z),?_,?_⟩
 ·show (calledTo b.harb (truthsR b.harb []) s (b.harb.letters[k]!).port (truthsR b.harb []).length).1.1 ≤ d
  omega
 ·show d ≤ (calledTo b.harb (truthsR b.harb []) s (b.harb.letters[k]!).port (truthsR b.harb []).length).1.2
  omega
theorem came_law {b : RBook} (q : (checkB b).2.2 = 0) {k : Nat} (hk : k < b.harb.letters.length) : (cameR b k).2.2 = 0 ∧ ((cameR b k).2.1 ≠ 2 →
  (∃ s : Nat,s < b.harb.ships.length ∧ (s : Int) ∈ (byR b.harb k).1 ∧ (callsR b.harb s (b.harb.letters[k]!).port).2.1 ≠ 2 ∧ (callsR b.harb s (b.harb.letters[k]!).port).1.1 ≤ (cameR b k).1.lo) ∧
  ∃ s : Nat,s < b.harb.ships.length ∧ (s : Int) ∈ (byR b.harb k).1 ∧ (callsR b.harb s (b.harb.letters[k]!).port).2.1 ≠ 2 ∧ (cameR b k).1.hi ≤ (callsR b.harb s (b.harb.letters[k]!).port).1.2) := by
 have hb := bok_check q
 have hp := cam_pos hb hk
 have hc := fun d => cam_ship q hk (d := d)
 obtain ⟨c1,c2⟩ := came_is (b := b) (k := k)
 rw [came_ok q hk]
 generalize camTo b (fairR b) k (fairR b).length = C at *
 refine ⟨rfl,fun h => ?_⟩
 have hy : 0 < C.yes := by
  have h1 := c1.yes
  have : C.yes ≠ 0 := fun z => h (by rw [settled_never (by omega)]; exact z)
  omega
 obtain ⟨l1,l2⟩ := c1.lo hy
 obtain ⟨g1,g2⟩ := c1.hi hy
 obtain ⟨s,s1,s2,s3,s4,_⟩ := hc _ l1 l2
 obtain ⟨r,r1,r2,r3,_,r5⟩ := hc _ g1 g2
 exact ⟨⟨s,s1,s2,s3,s4⟩,⟨r,r1,r2,r3,r5⟩⟩
theorem natMod (a b : Nat) : ((a : Int) % (b : Int)) = ((a % b : Nat) : Int) := (Int.natCast_emod a b).symm
theorem subset6_c (a b : List Int) : PCall Tryz.prog 47 [ints a,ints b] (.bool (a.all fun x => decide (x ∈ b))) := by
 intro m
 (refine acall_intro (E := env fun _ => .imm) (envOk _) rfl Tryz.func47 rfl Tryz.call47 (by kernel_rfl) (by simp [Tryz.ntmps47]) ?_; simp only [Tryz.f47];  simp(maxSteps:=9^9)only[↓VX,VQ,seval])
 refine aloop (envOk _) (fun k : Nat => ⟨[(0,.v (ints a)),(1,.v (ints b)),(5,.v (.int .i64 k))],[],[],m⟩) (fun k => k ≤ a.length ∧ ∀ x ∈ a.take k,x ∈ b) (fun k => a.length - k) 0 (fun _ => rfl) (by simp) (by simp [Fits,fitsV,fitsO,fitsL,upd,ints]) ?_
 rintro k ⟨hk,hp⟩
 simp(maxSteps:=9^9)only[↓VX,VQ,seval]
 repeat'(first|intro _|apply And.intro)
 all_goals try first|omega|(simp only[LL];omega)|exact nlC (by decide) _|exact nbC rfl
 ·have hlt : k < a.length := by omega
  have e1 : a[k]! = a[k] := getD_idx hlt
  refine ACall.pure (has_c _ _) ?_
  simp(maxSteps:=9^9)only[↓VX,VQ,seval]
  repeat'(first|intro _|apply And.intro)
  all_goals try first|omega|(simp only[LL];omega)|exact nlC (by decide) _|exact nbC rfl
  ·have h : ¬ a[k]! ∈ b := by assumption
   have : (a.all fun x => decide (x ∈ b)) = false := by
    rw [Bool.eq_false_iff]; intro h'
    rw [List.all_eq_true] at h'
    exact h (by rw [e1]; simpa using h' _ (List.getElem_mem hlt))
   rw [this]
  ·have h : a[k]! ∈ b := by
    apply Decidable.byContradiction; assumption
   (refine ⟨k + 1,?_,by dsimp only; omega,?_⟩; rotate_left 1; · ((simp only [FE,↓FP,seval]); try simp [e1]))
   exact ⟨by omega,forall_take_succ hlt hp (by rw [← e1]; exact h)⟩
 ·rw [List.take_of_length_le (by omega)] at hp
  have : (a.all fun x => decide (x ∈ b)) = true := by simpa using hp
  rw [this]
theorem natMod4 (a : Nat) : ((a : Int) % 4) = ((a % 4 : Nat) : Int) := (Int.natCast_emod a 4).symm
def lateTo (l : List RAns) (y : Int) (i : Nat) : List RAns := (l.take i).map (laterA y) ++ l.drop i
theorem lateTo_zero (l : List RAns) (y : Int) : lateTo l y 0 = l := by unfold lateTo; simp
theorem lateTo_all (l : List RAns) (y : Int) : lateTo l y l.length = l.map (laterA y) := by unfold lateTo; simp
theorem lateTo_length (l : List RAns) (y : Int) (i : Nat) : (lateTo l y i).length = l.length := by unfold lateTo; simp; omega
theorem lateTo_split {l : List RAns} {i : Nat} (y : Int) (h : i < l.length) : lateTo l y i = (l.take i).map (laterA y) ++ l[i]! :: l.drop (i + 1) := by
 unfold lateTo; rw [List.drop_eq_getElem_cons h,getD_any h]
theorem lateTo_at {l : List RAns} {i : Nat} (y : Int) (h : i < l.length) : (lateTo l y i)[i]! = l[i]! := by
 have hl := lateTo_length l y i
 rw [getD_any (by omega)]
 have e : ((l.take i).map (laterA y)).length = i := by rw [List.length_map,List.length_take]; omega
 simp only [lateTo_split y h]
 rw [List.getElem_append_right (by omega)]
 simp only [e,Nat.sub_self,List.getElem_cons_zero]
theorem lateTo_set {l : List RAns} {i : Nat} (y : Int) (h : i < l.length) : (lateTo l y i).set i (laterA y (l[i]!)) = lateTo l y (i + 1) := by
 have e : ((l.take i).map (laterA y)).length = i := by rw [List.length_map,List.length_take]; omega
 rw [lateTo_split y h,List.set_append_right _ _ (by omega),e,Nat.sub_self,List.set_cons_zero]
 unfold lateTo
 rw [List.take_succ_eq_append_getElem h,List.map_append,List.append_assoc,getD_any h]
 rfl
theorem replySooner_no (b : RBook) (hs : hnamesFit b.harb) (x y w : Nat) (e : ¬ (checkB b).2.2 = 0) : PCall Tryz.prog 12 [bookA b,.agg [.int .u8 x,.int .u8 y],.int .u8 w] (.bool true) := by
 intro m
 have v1 := valid6_c b hs
 have aw := awake_c
 rw [decide_eq_false e] at v1
 simp only [bookA,bookL,harbL,List.cons_append,List.nil_append,ints] at *
 (refine acall_intro (E := envC (modeAt [7,9] []) false [5,12]) (envCOk _ _ _) rfl Tryz.func12 rfl Tryz.call12 (by kernel_rfl) (by simp [Tryz.ntmps12]) ?_; simp only [Tryz.f12];  simp(maxSteps:=9^9)only[↓VX,VQ,seval,Int.reduceEq])
 ((refine ACall.pure (v1) ?_; try simp(maxSteps:=9^9)only[↓VX,VQ,seval]); try simp(maxSteps:=9^9)only[↓VX,VQ,seval,GL])
 ((refine ACall.pure (aw) ?_; try simp(maxSteps:=9^9)only[↓VX,VQ,seval]); try simp(maxSteps:=9^9)only[↓VX,VQ,seval,GL])
theorem replySooner_ok (b : RBook) (hs : hnamesFit b.harb) (x y w : Nat) (hx : x < 256) (hy : y < 256) (hw : w < 256) (e : (checkB b).2.2 = 0) (hpos : 0 < b.answers.length) : PCall Tryz.prog 12 [bookA b,.agg [.int .u8 x,.int .u8 y],.int .u8 w] (.bool true) := by
 intro m
 have hb := bok_check e
 have hnn := hb.n
 have hbk := hb.back
 have han := hb.ans
 have v1 := valid6_c b hs
 rw [decide_eq_true e] at v1
 have aw := awake_c
 have hm4 := natMod4 x
 have hm5 := natMod4 y
 have hx4 : x % 4 < 4 := Nat.mod_lt x (by decide)
 have hy4 : y % 4 < 4 := Nat.mod_lt y (by decide)
 generalize x % 4 = X at *
 generalize y % 4 = Y at *
 obtain ⟨l1,l2⟩ := sooner_law e (x := (X : Int)) (y := (Y : Int)) (by omega) (by omega)
 have hq := sooner_check e (x := (X : Int)) (y := (Y : Int)) (by omega) (by omega)
 have d1 := first_top b hs
 have d2 := first_top (soonerB b X Y) hs
 rw [first_ok e] at d1
 rw [first_ok hq] at d2
 have hlr := least_range hb
 have hlr2 := least_range (bok_check hq)
 have hmodA := natMod w b.answers.length
 have hA := fun q : 0 < b.answers.length => Nat.mod_lt w q
 generalize w % b.answers.length = a at *
 have c1 := could_top b hs a
 have c2 := could_top (soonerB b X Y) hs a
 have sb := subset6_c (couldR b a).1 (couldR (soonerB b X Y) a).1
 have l2 := l2 a
 have eb : bookA (soonerB b X Y) = .agg (harbL b.harb ++ [ints b.words,.int .i64 (max 1 (b.back - X)),.slice 3 ((b.answers.map (laterA Y)).map ansA)]) := rfl
 rw [eb] at d2 c2
 clear eb
 have ez := lateTo_zero b.answers (Y : Int)
 have eA := lateTo_all b.answers (Y : Int)
 have ell := lateTo_length b.answers (Y : Int)
 have eat := fun i => lateTo_at (l := b.answers) (i := i) (Y : Int)
 have est := fun i => lateTo_set (l := b.answers) (i := i) (Y : Int)
 generalize couldR b a = C1 at *
 generalize couldR (soonerB b X Y) a = C2 at *
 generalize bestR (soonerB b X Y) = B2 at *
 generalize bestR b = B1 at *
 generalize leastR (soonerB b X Y) = L2 at *
 generalize leastR b = L1 at *
 simp only [bookA,bookL,harbL,List.cons_append,List.nil_append,ints] at *
 (refine acall_intro (E := envC (modeAt [7,9] []) false [5,12]) (envCOk _ _ _) rfl Tryz.func12 rfl Tryz.call12 (by kernel_rfl) (by simp [Tryz.ntmps12]) ?_; simp only [Tryz.f12];  simp(maxSteps:=9^9)only[↓VX,VQ,seval,Int.reduceEq])
 (refine ACall.pure (v1) ?_; try simp(maxSteps:=9^9)only[↓VX,VQ,seval,GL,hm4])
 repeat'(first|intro _|apply And.intro)
 all_goals try first|omega|(simp only[LL];omega)|exact nlC (by decide) _|exact nbC rfl
 refine thawAt 3 (envCOk _ _ _) rfl rfl (fun (q : Nat × Nat × List AV) => ⟨[(2,.v (.int .u8 w)),(3,.v (.eptr [.int .i64 b.harb.ports,.int .i64 b.harb.lost,.slice 5 (b.harb.ships.map shipA),.slice 3 (b.harb.letters.map letA),.slice 4 (b.harb.reports.map repA),.slice 1 (b.words.map (AV.int .i64)),.int .i64 b.back,.slice 3 (b.answers.map ansA)])),(4,.v (.eptr [.int .u8 x,.int .u8 y])),(7,.loc 7 0)],[],[(7,[.int .i64 b.harb.ports,.int .i64 b.harb.lost,.slice 5 (b.harb.ships.map shipA),.slice 3 (b.harb.letters.map letA),.slice 4 (b.harb.reports.map repA),.slice 1 (b.words.map (AV.int .i64)),.int .i64 (max 1 (b.back - X)),.mslice q.1 0 b.answers.length q.2.1])],upd m q.1 (some (.cells (((b.answers.map ansA).map AV.cells).flatten ++ q.2.2)))⟩)
  (fun q => m q.1 = none ∧ b.answers.length ≤ q.2.1 ∧ q.2.1 ≤ maxLen) (fun _ => rfl) ?_ ?_
 ·show vcOps _ _ (_ :: _) _ _
  simp(maxSteps:=9^9)only[↓VX,VQ,seval,List.take_succ_cons,List.take_zero,vcThaw]
  repeat'(first|intro _|apply And.intro)
  all_goals try first|omega|(simp only[LL];omega)|exact nlC (by decide) _|exact nbC rfl
  rename_i bk cap tail q1 q2 q3
  refine ⟨(bk,cap,tail),⟨q1,q2,q3⟩,?_⟩
  (simp only [FE,↓FP,seval])
  try simp
 rintro ⟨bk,cap,tail⟩ ⟨hbk,hcap,hcm⟩
 dsimp only at hbk hcap hcm ⊢
 have hC : ((b.answers.map ansA).map AV.cells).flatten = ansC (lateTo b.answers Y 0) := by rw [ez]; rfl
 rw [hC]
 clear hC ez
 simp(maxSteps:=9^9)only[↓VX,VQ,seval]
 refine aloop (envCOk _ _ _) (fun i : Nat => ⟨[(2,.v (.int .u8 w)),(3,.v (.eptr [.int .i64 b.harb.ports,.int .i64 b.harb.lost,.slice 5 (b.harb.ships.map shipA),.slice 3 (b.harb.letters.map letA),.slice 4 (b.harb.reports.map repA),.slice 1 (b.words.map (AV.int .i64)),.int .i64 b.back,.slice 3 (b.answers.map ansA)])),(4,.v (.eptr [.int .u8 x,.int .u8 y])),(7,.loc 7 0),(8,.v (.int .i64 i))],[],[(7,[.int .i64 b.harb.ports,.int .i64 b.harb.lost,.slice 5 (b.harb.ships.map shipA),.slice 3 (b.harb.letters.map letA),.slice 4 (b.harb.reports.map repA),.slice 1 (b.words.map (AV.int .i64)),.int .i64 (max 1 (b.back - X)),.mslice bk 0 b.answers.length cap])],upd m bk (some (.cells (ansC (lateTo b.answers Y i) ++ tail)))⟩)
  (fun i => i ≤ b.answers.length) (fun i => b.answers.length - i) 0 (fun _ => rfl) (by omega) (by (simp only [FE,↓FP,seval]); try simp) ?_
 intro i hi
 have elli := ell i
 rcases Nat.lt_or_ge i b.answers.length with hlt | hge
 ·have hmi := han i hlt
  have ei := eat i hlt
  have esi := est i hlt
  have hst := fun y => ansC_set (lateTo b.answers Y i) tail i y (by rw [elli]; exact hlt)
  obtain ⟨R,hdr⟩ := ansC_at (lateTo b.answers Y i) tail i (by rw [elli]; exact hlt)
  rw [ei] at hdr
  have hlc : i * 3 + 3 ≤ (ansC (lateTo b.answers Y i) ++ tail).length := by
   have := congrArg List.length hdr
   rw [List.length_drop] at this
   simp only [List.length_cons] at this
   omega
  generalize lateTo b.answers Y i = LT at *
  simp(maxSteps:=9^9)only[↓VX,VQ,seval,hdr,hm5]
  repeat'(first|intro _|apply And.intro)
  all_goals try first|omega|(simp only[LL];omega)|exact nlC (by decide) _|exact nbC rfl
  have h2 := hst (laterA Y (b.answers[i]!))
  rw [esi] at h2
  refine ⟨i + 1,by dsimp only; omega,by dsimp only; omega,?_⟩
  (simp only [FE,↓FP,seval])
  refine ⟨by rw [Int.natCast_add]; rfl,?_⟩
  rw [updTwice]
  exact congrArg (fun z => upd m bk (some (Box.cells z))) h2
 ·have hie : i = b.answers.length := by omega
  subst hie
  rw [eA]
  simp(maxSteps:=9^9)only[↓VX,VQ,seval]
  repeat'(first|intro _|apply And.intro)
  all_goals try first|omega|(simp only[LL];omega)|exact nlC (by decide) _|exact nbC rfl
  refine acut_melt (envCOk _ _ _) (fun (_ : Unit) => ⟨[(2,.v (.int .u8 w)),(3,.v (.eptr [.int .i64 b.harb.ports,.int .i64 b.harb.lost,.slice 5 (b.harb.ships.map shipA),.slice 3 (b.harb.letters.map letA),.slice 4 (b.harb.reports.map repA),.slice 1 (b.words.map (AV.int .i64)),.int .i64 b.back,.slice 3 (b.answers.map ansA)])),(7,.loc 7 0),(10,.v (.slice 1 (B1.map (AV.int .i64)))),(11,.v (.int .i64 L1)),(12,.v (.int .i64 0))],[],[(7,[.int .i64 b.harb.ports,.int .i64 b.harb.lost,.slice 5 (b.harb.ships.map shipA),.slice 3 (b.harb.letters.map letA),.slice 4 (b.harb.reports.map repA),.slice 1 (b.words.map (AV.int .i64)),.int .i64 (max 1 (b.back - X)),.slice 3 ((b.answers.map (laterA Y)).map ansA)])],m⟩)
   (fun _ => True) (fun _ => bk) (fun _ => 3) (fun _ => (b.answers.map (laterA Y)).map ansA) (fun _ => tail) (fun _ => rfl) ?_ ?_
  ·show vcOps _ _ (_ :: _) _ _
   simp(maxSteps:=9^9)only[↓VX,VQ,seval]
   ((refine ACall.pure (d1) ?_; try simp(maxSteps:=9^9)only[↓VX,VQ,seval]); try simp(maxSteps:=9^9)only[↓VX,VQ,seval,GL])
   repeat'(first|intro _|apply And.intro)
   all_goals try first|omega|(simp only[LL];omega)|exact nlC (by decide) _|exact nbC rfl
   refine ⟨(),⟨_,rfl,?_,?_⟩,?_⟩
   ·rw [upd_same]; rfl
   ·intro e he
    obtain ⟨q,_,rfl⟩ := List.mem_map.1 he
    exact ⟨rfl,rfl⟩
   ·simp only [Fits,fitsV,fitsO,fitsL,St.melt,↓upd,↓lookV,↓lookO,↓lookL,Nat.reduceEqDiff,↓reduceIte,ints,and_true,true_and,Option.some.injEq,meltV,meltA,Option.map_some,List.map_cons,List.map_nil]
    exact ⟨by rw [if_pos ⟨by simp,hcap,hcm⟩],by rw [updUndo hbk]⟩
  intro _ _
  have hlz : (soonerB b X Y).answers.length = b.answers.length := sooner_n b X Y
  obtain ⟨l3,l4,l5⟩ := l2 (hA hpos)
  rw [l3] at c1
  rw [l4] at c2
  rw [l5] at sb
  simp(maxSteps:=9^9)only[↓VX,VQ,seval]
  ((refine ACall.pure (d2) ?_; try simp(maxSteps:=9^9)only[↓VX,VQ,seval]); try simp(maxSteps:=9^9)only[↓VX,VQ,seval,GL])
  repeat'(first|intro _|apply And.intro)
  all_goals try first|omega|(simp only[LL];omega)|exact nlC (by decide) _|exact nbC rfl
  simp(maxSteps:=9^9)only[↓VX,VQ,seval,hmodA]
  repeat'(first|intro _|apply And.intro)
  all_goals try first|omega|(simp only[LL];omega)|exact nlC (by decide) _|exact nbC rfl
  (refine ACall.pure (c1) ?_; try simp(maxSteps:=9^9)only[↓VX,VQ,seval,GL,hmodA])
  (refine ACall.pure (c2) ?_; try simp(maxSteps:=9^9)only[↓VX,VQ,seval,GL,hmodA])
  ((refine ACall.pure (sb) ?_; try simp(maxSteps:=9^9)only[↓VX,VQ,seval]); try simp(maxSteps:=9^9)only[↓VX,VQ,seval,GL])
  ((refine ACall.pure (aw) ?_; try simp(maxSteps:=9^9)only[↓VX,VQ,seval]); try simp(maxSteps:=9^9)only[↓VX,VQ,seval,GL])
theorem replySooner_0 (b : RBook) (hs : hnamesFit b.harb) (x y w : Nat) (hx : x < 256) (_hy : y < 256) (_hw : w < 256) (e : (checkB b).2.2 = 0) (h0 : b.answers = []) : PCall Tryz.prog 12 [bookA b,.agg [.int .u8 x,.int .u8 y],.int .u8 w] (.bool true) := by
 intro m
 have hb := bok_check e
 have hbk := hb.back
 have v1 := valid6_c b hs
 rw [decide_eq_true e] at v1
 have aw := awake_c
 have hm4 := natMod4 x
 have hx4 : x % 4 < 4 := Nat.mod_lt x (by decide)
 generalize x % 4 = X at *
 have hq := sooner_check e (x := (X : Int)) (y := 0) (by omega) (by omega)
 obtain ⟨l1,_⟩ := sooner_law e (x := (X : Int)) (y := 0) (by omega) (by omega)
 have d1 := first_top b hs
 have d2 := first_top (soonerB b X 0) hs
 rw [first_ok e] at d1
 rw [first_ok hq] at d2
 have hlr := least_range hb
 have hlr2 := least_range (bok_check hq)
 have eb : bookA (soonerB b X 0) = .agg (harbL b.harb ++ [ints b.words,.int .i64 (max 1 (b.back - X)),.slice 3 []]) := by unfold bookA bookL soonerB; rw [h0]; rfl
 have eb1 : bookA b = .agg (harbL b.harb ++ [ints b.words,.int .i64 b.back,.slice 3 []]) := by unfold bookA bookL; rw [h0]; rfl
 rw [eb] at d2
 rw [eb1] at d1 v1 ⊢
 clear eb eb1
 generalize bestR (soonerB b X 0) = B2 at *
 generalize bestR b = B1 at *
 generalize leastR (soonerB b X 0) = L2 at *
 generalize leastR b = L1 at *
 simp only [bookA,bookL,harbL,List.cons_append,List.nil_append,ints] at *
 (refine acall_intro (E := envC (modeAt [7,9] []) false []) (envCOk _ _ _) rfl Tryz.func12 rfl Tryz.call12 (by kernel_rfl) (by simp [Tryz.ntmps12]) ?_; simp only [Tryz.f12];  simp(maxSteps:=9^9)only[↓VX,VQ,seval,Int.reduceEq])
 (refine ACall.pure (v1) ?_; try simp(maxSteps:=9^9)only[↓VX,VQ,seval,GL,hm4])
 repeat'(first|intro _|apply And.intro)
 all_goals try first|omega|(simp only[LL];omega)|exact nlC (by decide) _|exact nbC rfl
 refine aloop (envCOk _ _ _) (fun i : Nat => ⟨[(3,.v (.eptr [.int .i64 b.harb.ports,.int .i64 b.harb.lost,.slice 5 (b.harb.ships.map shipA),.slice 3 (b.harb.letters.map letA),.slice 4 (b.harb.reports.map repA),.slice 1 (b.words.map (AV.int .i64)),.int .i64 b.back,.slice 3 []])),(7,.loc 7 0),(8,.v (.int .i64 i))],[],[(7,[.int .i64 b.harb.ports,.int .i64 b.harb.lost,.slice 5 (b.harb.ships.map shipA),.slice 3 (b.harb.letters.map letA),.slice 4 (b.harb.reports.map repA),.slice 1 (b.words.map (AV.int .i64)),.int .i64 (max 1 (b.back - X)),.slice 3 []])],m⟩)
  (fun i => i = 0) (fun i => 0 - i) 0 (fun _ => rfl) (by simp) (by (simp only [FE,↓FP,seval]); try simp) ?_
 intro i hi
 subst hi
 simp(maxSteps:=9^9)only[↓VX,VQ,seval]
 ((refine ACall.pure (d1) ?_; try simp(maxSteps:=9^9)only[↓VX,VQ,seval]); try simp(maxSteps:=9^9)only[↓VX,VQ,seval,GL])
 ((refine ACall.pure (d2) ?_; try simp(maxSteps:=9^9)only[↓VX,VQ,seval]); try simp(maxSteps:=9^9)only[↓VX,VQ,seval,GL])
 repeat'(first|intro _|apply And.intro)
 all_goals try first|omega|(simp only[LL];omega)|exact nlC (by decide) _|exact nbC rfl
 all_goals (((refine ACall.pure (aw) ?_; try simp(maxSteps:=9^9)only[↓VX,VQ,seval]); try simp(maxSteps:=9^9)only[↓VX,VQ,seval,GL]))
theorem replySooner_c (b : RBook) (hs : hnamesFit b.harb) (x y : Nat) (hx : x < 256) (hy : y < 256) (w : Nat) (hw : w < 256) : PCall Tryz.prog 12 [bookA b,.agg [.int .u8 x,.int .u8 y],.int .u8 w] (.bool true) := by
 by_cases e : (checkB b).2.2 = 0
 ·by_cases h0 : b.answers = []
  ·exact replySooner_0 b hs x y w hx hy hw e h0
  ·exact replySooner_ok b hs x y w hx hy hw e (List.length_pos_iff.2 h0)
 ·exact replySooner_no b hs x y w e
end Go.Proofs.YtnfmmhmfbipkjaaGreat.Abs
