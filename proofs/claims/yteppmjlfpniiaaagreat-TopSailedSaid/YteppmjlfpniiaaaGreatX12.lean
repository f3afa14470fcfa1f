/- Lemmas for the statements of this seat (X12): they hold without conditions beyond those that each one states. -/
import Derived.Test.YteppmjlfpniiaaaGreatX11
/- Data: halls of writers; how far a plan is; when it is over at the earliest. -/
namespace Go.Proofs.YteppmjlfpniiaaaGreat.Abs
set_option linter.unusedSimpArgs false
open Go Go.RowKit Go.Proofs
structure RWri where
 name : ByteArray
 kinds : Int
 lo : Int
 hi : Int
deriving Inhabited
structure RCus where
 name : ByteArray
 kind : Int
 lo : Int
 hi : Int
 ship : Int
deriving Inhabited
structure RHall where
 sl : Int
 wri : List RWri
 cus : List RCus
def wriA (x : RWri) : AV := .agg [.str x.name,.int .i64 x.kinds,.int .i64 x.lo,.int .i64 x.hi]
def cusA (x : RCus) : AV := .agg [.str x.name,.int .i64 x.kind,.int .i64 x.lo,.int .i64 x.hi,.int .i64 x.ship]
def hallL (h : RHall) : List AV := [.int .i64 h.sl,.slice 4 (h.wri.map wriA),.slice 5 (h.cus.map cusA)]
def hallA (h : RHall) : AV := .agg (hallL h)
def spanE (lo hi least most : Int) : Int := if (offP least most lo || offP least most hi) = true then 7 else if hi < lo then 2 else 0
def wriErr (l : List RWri) (i : Nat) (x : RWri) : Int :=
 if nameB x.name = true then (if (l.take i).any (fun y => decide (y.name = x.name)) = true then 5 else if offP 0 15 x.kinds = true then 7 else spanE x.lo x.hi 0 240) else 6
def cusErr (l : List RCus) (i : Nat) (x : RCus) : Int :=
 if nameB x.name = true then (if (l.take i).any (fun y => decide (y.name = x.name)) = true then 5 else if (offP 0 3 x.kind || offP 0 240 x.ship) = true then 7 else spanE x.lo x.hi 1 30) else 6
def wrisE (h : RHall) : Int × Int := failFrom (wriErr h.wri) 0 h.wri
def cussE (h : RHall) : Int × Int := failFrom (cusErr h.cus) 0 h.cus
def checkD (h : RHall) : Int × Int × Int :=
 if offP 0 5 h.sl = true then (1,0,7)
 else if 3 < h.wri.length then (2,0,3)
 else if (wrisE h).2 ≠ 0 then (2,(wrisE h).1,(wrisE h).2)
 else if 5 < h.cus.length then (3,0,3)
 else if (cussE h).2 ≠ 0 then (3,(cussE h).1,(cussE h).2)
 else (0,0,0)
structure DOk (h : RHall) : Prop where
 sl : 0 ≤ h.sl ∧ h.sl ≤ 5
 n : h.wri.length ≤ 3
 wri : ∀ i,i < h.wri.length → (0 ≤ (h.wri[i]!).kinds ∧ (h.wri[i]!).kinds ≤ 15) ∧ 0 ≤ (h.wri[i]!).lo ∧ (h.wri[i]!).lo ≤ (h.wri[i]!).hi ∧ (h.wri[i]!).hi ≤ 240
 m : h.cus.length ≤ 5
 cus : ∀ i,i < h.cus.length → (0 ≤ (h.cus[i]!).kind ∧ (h.cus[i]!).kind ≤ 3) ∧ (1 ≤ (h.cus[i]!).lo ∧ (h.cus[i]!).lo ≤ (h.cus[i]!).hi ∧ (h.cus[i]!).hi ≤ 30) ∧ 0 ≤ (h.cus[i]!).ship ∧ (h.cus[i]!).ship ≤ 240
/-! ### How far a plan is -/
structure Stand where
 w : Nat
 done : Nat
 at_ : List Int
deriving Inhabited,DecidableEq
def begT (h : RHall) : List Int := (List.range 3).map fun i => if i < h.wri.length then (h.wri[i]!).hi else 0
def begS (h : RHall) : Stand := ⟨0,0,begT h⟩
def canD (h : RHall) (ws w c : Nat) : Bool := ws.testBit w && bitI (h.wri[w]!).kinds (h.cus[c]!).kind
def endD (h : RHall) (x : Stand) (c : Nat) : Int := x.at_[x.w]! + (h.cus[c]!).hi + h.sl
def goD (h : RHall) (ws cs : Nat) (x : Stand) (c : Nat) : Bool := cs.testBit c && (!x.done.testBit c && (canD h ws x.w c && decide (endD h x c ≤ (h.cus[c]!).ship)))
def putD (h : RHall) (x : Stand) (c : Nat) : Stand := ⟨x.w,x.done ||| 2 ^ c,x.at_.set x.w (endD h x c)⟩
def nxtD (h : RHall) (ws cs : Nat) (x : Stand) : List (Int × Stand) :=
 if x.w = h.wri.length then [] else (-1,{ x with w := x.w + 1 }) :: ((List.range h.cus.length).filter (goD h ws cs x)).map fun (c : Nat) => ((c : Int),putD h x c)
def lateD (h : RHall) (x : Stand) : Int := (List.range 3).foldl (fun b i => if (begT h)[i]! < x.at_[i]! then max b (x.at_[i]!) else b) 0
def baseD (h : RHall) (cs : Nat) (x : Stand) : Int := if x.w = h.wri.length ∧ x.done = cs then lateD h x else -1
def lessD (b n : Int) : Int := if 0 ≤ n ∧ (b < 0 ∨ n < b) then n else b
def overF (h : RHall) (ws cs : Nat) : Nat → Stand → Int
 | 0,x => baseD h cs x
 | f + 1,x => (nxtD h ws cs x).foldl (fun b y => lessD b (overF h ws cs f y.2)) (baseD h cs x)
def leftD (h : RHall) (x : Stand) : Nat := (h.wri.length - x.w) + ((List.range h.cus.length).filter fun c => !x.done.testBit c).length
def overD (h : RHall) (ws cs : Nat) (x : Stand) : Int := overF h ws cs (leftD h x) x
theorem filter_drop {p q : Nat → Bool} : ∀ {l : List Nat} {c : Nat},c ∈ l → p c = true → q c = false → (∀ i,q i = true → p i = true) → (l.filter q).length < (l.filter p).length
 | a :: l,c,hc,hp,hq,h => by
  have hle : ∀ l : List Nat,(l.filter q).length ≤ (l.filter p).length := fun l => by
   induction l with
   | nil => simp
   | cons x l ih =>
    rw [List.filter_cons,List.filter_cons]
    by_cases e : q x = true
    ·rw [if_pos e,if_pos (h x e)]; simp only [List.length_cons]; omega
    ·rw [if_neg e]
     split
     ·simp only [List.length_cons]; omega
     ·exact ih
  rw [List.filter_cons,List.filter_cons]
  rcases List.mem_cons.1 hc with rfl | hc
  ·rw [if_pos hp,if_neg (by rw [hq]; decide)]
   have := hle l
   simp only [List.length_cons]; omega
  ·have ih := filter_drop hc hp hq h
   by_cases e : q a = true
   ·rw [if_pos e,if_pos (h a e)]; simp only [List.length_cons]; omega
   ·rw [if_neg e]
    split
    ·simp only [List.length_cons]; omega
    ·exact ih
theorem mem_nxtD {h : RHall} {ws cs : Nat} {x : Stand} {y : Int × Stand} : y ∈ nxtD h ws cs x ↔ x.w ≠ h.wri.length ∧ (y = (-1,{ x with w := x.w + 1 }) ∨ ∃ c : Nat,c < h.cus.length ∧ goD h ws cs x c = true ∧ y = ((c : Int),putD h x c)) := by
 unfold nxtD
 by_cases q : x.w = h.wri.length
 ·rw [if_pos q]; simp [q]
 ·rw [if_neg q,List.mem_cons]
  simp only [List.mem_map,List.mem_filter,List.mem_range]
  constructor
  ·rintro (e | ⟨c,⟨h1,h2⟩,rfl⟩)
   ·exact ⟨q,.inl e⟩
   ·exact ⟨q,.inr ⟨c,h1,h2,rfl⟩⟩
  ·rintro ⟨_,e | ⟨c,h1,h2,rfl⟩⟩
   ·exact .inl e
   ·exact .inr ⟨c,⟨h1,h2⟩,rfl⟩
theorem left_nxt {h : RHall} {ws cs : Nat} {x : Stand} (hw : x.w ≤ h.wri.length) {y : Int × Stand} (hy : y ∈ nxtD h ws cs x) : leftD h y.2 < leftD h x ∧ y.2.w ≤ h.wri.length := by
 obtain ⟨q,e | ⟨c,hc,hg,e⟩⟩ := mem_nxtD.1 hy
 ·subst e
  refine ⟨?_,by show x.w + 1 ≤ _; omega⟩
  unfold leftD
  show (h.wri.length - (x.w + 1)) + ((List.range h.cus.length).filter fun c => !x.done.testBit c).length < (h.wri.length - x.w) + ((List.range h.cus.length).filter fun c => !x.done.testBit c).length
  omega
 ·subst e
  refine ⟨?_,hw⟩
  unfold goD at hg
  simp only [Bool.and_eq_true,Bool.not_eq_true'] at hg
  have := filter_drop (p := fun c => !x.done.testBit c) (q := fun i => !(x.done ||| 2 ^ c).testBit i) (l := List.range h.cus.length) (List.mem_range.2 hc) (by simp [hg.2.1]) (by simp [Nat.testBit_or,Nat.testBit_two_pow_self]) (fun i hi => by
   rw [Nat.testBit_or,Bool.not_or,Bool.and_eq_true] at hi; exact hi.1)
  unfold leftD
  show (h.wri.length - x.w) + ((List.range h.cus.length).filter fun i => !(x.done ||| 2 ^ c).testBit i).length < _
  omega
theorem foldl_congr {α β : Type} {f g : β → α → β} : ∀ {l : List α} {b : β},(∀ y ∈ l,∀ b,f b y = g b y) → l.foldl f b = l.foldl g b
 | [],_,_ => rfl
 | y :: l,b,h => by
  rw [List.foldl_cons,List.foldl_cons,h y (by simp) b]
  exact foldl_congr fun z hz b => h z (List.mem_cons_of_mem _ hz) b
theorem overF_stable (h : RHall) (ws cs : Nat) : ∀ (f g : Nat) (x : Stand),x.w ≤ h.wri.length → leftD h x ≤ f → leftD h x ≤ g → overF h ws cs f x = overF h ws cs g x
 | 0,0,_,_,_,_ => rfl
 | 0,g + 1,x,hw,hf,_ => by
  have : x.w = h.wri.length := by unfold leftD at hf; omega
  show _ = (nxtD h ws cs x).foldl _ _
  rw [show nxtD h ws cs x = [] by unfold nxtD; rw [if_pos this]]
  rfl
 | f + 1,0,x,hw,_,hg => by
  have : x.w = h.wri.length := by unfold leftD at hg; omega
  show (nxtD h ws cs x).foldl _ _ = _
  rw [show nxtD h ws cs x = [] by unfold nxtD; rw [if_pos this]]
  rfl
 | f + 1,g + 1,x,hw,hf,hg => by
  show (nxtD h ws cs x).foldl _ _ = (nxtD h ws cs x).foldl _ _
  refine foldl_congr fun y hy b => ?_
  obtain ⟨h1,h2⟩ := left_nxt hw hy
  rw [overF_stable h ws cs f g y.2 h2 (by omega) (by omega)]
theorem overD_eq {h : RHall} {ws cs : Nat} {x : Stand} (hw : x.w ≤ h.wri.length) : overD h ws cs x = (nxtD h ws cs x).foldl (fun b y => lessD b (overD h ws cs y.2)) (baseD h cs x) := by
 have e : overD h ws cs x = overF h ws cs (leftD h x + 1) x := overF_stable h ws cs _ _ x hw (Nat.le_refl _) (by omega)
 rw [e]
 show (nxtD h ws cs x).foldl _ _ = _
 refine foldl_congr fun y hy b => ?_
 obtain ⟨h1,h2⟩ := left_nxt hw hy
 unfold overD
 rw [overF_stable h ws cs (leftD h x) (leftD h y.2) y.2 h2 (by omega) (Nat.le_refl _)]
set_option maxHeartbeats 4000000
set_option maxRecDepth 100000
theorem less_fold {α : Type} (F : α → Int) : ∀ (l : List α) (b : Int),l.foldl (fun b y => lessD b (F y)) b = b ∨ ∃ y ∈ l,l.foldl (fun b y => lessD b (F y)) b = F y
 | [],b => .inl rfl
 | x :: l,b => by
  rw [List.foldl_cons]
  rcases less_fold F l (lessD b (F x)) with h | ⟨y,hy,h⟩
  ·rw [h]
   unfold lessD
   split
   ·exact .inr ⟨x,by simp,rfl⟩
   ·exact .inl rfl
  ·exact .inr ⟨y,List.mem_cons_of_mem _ hy,h⟩
theorem over_step {h : RHall} {ws cs : Nat} {x : Stand} (hw : x.w < h.wri.length) {o : Int} (e : overD h ws cs x = o) (ho : 0 ≤ o) : ∃ y ∈ nxtD h ws cs x,overD h ws cs y.2 = o := by
 rw [overD_eq (by omega)] at e
 have hb : baseD h cs x = -1 := by unfold baseD; rw [if_neg (by omega)]
 rw [hb] at e
 rcases less_fold (fun y : Int × Stand => overD h ws cs y.2) (nxtD h ws cs x) (-1) with q | ⟨y,hy,q⟩
 ·rw [q] at e; omega
 ·exact ⟨y,hy,by rw [← q]; exact e⟩
theorem over_end {h : RHall} {ws cs : Nat} {x : Stand} (hw : x.w = h.wri.length) : overD h ws cs x = baseD h cs x := by
 rw [overD_eq (by omega)]
 unfold nxtD
 rw [if_pos hw]
 rfl
def findF (h : RHall) (ws cs : Nat) (o : Int) : Nat → Stand → List Int
 | 0,_ => []
 | f + 1,x => if x.w = h.wri.length then [] else match (nxtD h ws cs x).find? (fun y => decide (overD h ws cs y.2 = o)) with
  | some y => y.1 :: findF h ws cs o f y.2
  | none => []
def planStep (s : Nat × List (List Int)) (who : Int) : Nat × List (List Int) := if who < 0 then (s.1 + 1,s.2) else (s.1,s.2.set s.1 (s.2[s.1]! ++ [who]))
def planF (n : Nat) (l : List Int) : List (List Int) := (l.foldl planStep (0,List.replicate n [])).2
def endsW (h : RHall) (w : Nat) (l : List Int) : Int := l.foldl (fun t c => t + (h.cus[c.toNat]!).hi + h.sl) (h.wri[w]!).hi
theorem endsW_snoc (h : RHall) (w : Nat) (l : List Int) (c : Nat) : endsW h w (l ++ [(c : Int)]) = endsW h w l + (h.cus[c]!).hi + h.sl := by
 unfold endsW; rw [List.foldl_append]; rfl
structure PlanOk (h : RHall) (ws : Nat) (x : Stand) (p : List (List Int)) : Prop where
 w : x.w ≤ h.wri.length
 len : p.length = h.wri.length
 at_ : x.at_.length = 3
 rest : ∀ w,x.w < w → w < h.wri.length → p[w]! = []
 ends : ∀ w,w < h.wri.length → x.at_[w]! = endsW h w (p[w]!)
 good : ∀ w,w < h.wri.length → ∀ i,i < (p[w]!).length → ∃ c : Nat,(p[w]!)[i]! = (c : Int) ∧ c < h.cus.length ∧ canD h ws w c = true ∧ endsW h w ((p[w]!).take (i + 1)) ≤ (h.cus[c]!).ship
 done : ∀ c,c < h.cus.length → (x.done.testBit c = true ↔ ∃ w,w < h.wri.length ∧ (c : Int) ∈ p[w]!)
 once : ∀ w v i j,w < h.wri.length → v < h.wri.length → i < (p[w]!).length → j < (p[v]!).length → (p[w]!)[i]! = (p[v]!)[j]! → w = v ∧ i = j
theorem plan_begin (h : RHall) (hn : h.wri.length ≤ 3) (ws : Nat) : PlanOk h ws (begS h) (List.replicate h.wri.length []) := by
 have hr : ∀ w,w < h.wri.length → (List.replicate h.wri.length ([] : List Int))[w]! = [] := fun w hw => by
  rw [getD_any (by simpa using hw)]; simp
 refine ⟨by show 0 ≤ _; omega,by simp,by unfold begS begT; simp,fun w _ hw => hr w hw,fun w hw => ?_,fun w hw i hi => ?_,fun c hc => ?_,fun w v i j hw hv hi hj _ => ?_⟩
 ·rw [hr w hw]
  show (begT h)[w]! = (h.wri[w]!).hi
  unfold begT
  rw [getD_any (by simp; omega)]
  simp [hw]
 ·rw [hr w hw] at hi; cases hi
 ·constructor
  ·intro q
   have : (0 : Nat).testBit c = true := q
   simp at this
  ·rintro ⟨w,hw,q⟩
   rw [hr w hw] at q; cases q
 ·rw [hr w hw] at hi; cases hi
theorem getD_set {α : Type} [Inhabited α] {l : List α} {i j : Nat} {x : α} (hi : i < l.length) : (l.set i x)[j]! = if i = j then x else l[j]! := by
 by_cases q : j < l.length
 ·rw [getD_any (by simpa using q),List.getElem_set]
  split
  ·rfl
  ·rw [getD_any q]
 ·rw [if_neg (by omega)]
  simp [List.getElem!_eq_getElem?_getD,List.getElem?_eq_none (by simpa using Nat.le_of_not_lt q : (l.set i x).length ≤ j),List.getElem?_eq_none (Nat.le_of_not_lt q)]
theorem plan_next {h : RHall} {ws cs : Nat} {x : Stand} {p : List (List Int)} (k : PlanOk h ws x p) (hn : h.wri.length ≤ 3) {y : Int × Stand} (hy : y ∈ nxtD h ws cs x) : PlanOk h ws y.2 (planStep (x.w,p) y.1).2 ∧ (planStep (x.w,p) y.1).1 = y.2.w := by
 obtain ⟨hw,e | ⟨c,hc,hg,e⟩⟩ := mem_nxtD.1 hy
 ·subst e
  have hp : planStep (x.w,p) (-1) = (x.w + 1,p) := rfl
  rw [hp]
  have := k.w
  exact ⟨⟨by show x.w + 1 ≤ _; omega,k.len,k.at_,fun w h1 h2 => k.rest w (by have h1 : x.w + 1 < w := h1; omega) h2,k.ends,k.good,k.done,k.once⟩,rfl⟩
 ·subst e
  have hxw : x.w < h.wri.length := by have := k.w; omega
  have hp : planStep (x.w,p) (c : Int) = (x.w,p.set x.w (p[x.w]! ++ [(c : Int)])) := by unfold planStep; rw [if_neg (by omega)]
  rw [hp]
  unfold goD at hg
  simp only [Bool.and_eq_true,Bool.not_eq_true',decide_eq_true_eq] at hg
  obtain ⟨g1,g2,g3,g4⟩ := hg
  have hpl : x.w < p.length := by rw [k.len]; exact hxw
  have hgs : ∀ j,(p.set x.w (p[x.w]! ++ [(c : Int)]))[j]! = if x.w = j then p[x.w]! ++ [(c : Int)] else p[j]! := fun j => getD_set hpl
  have hat : ∀ j,(putD h x c).at_[j]! = if x.w = j then endD h x c else x.at_[j]! := fun j => getD_set (by rw [k.at_]; omega)
  have hec : endD h x c = endsW h x.w (p[x.w]! ++ [(c : Int)]) := by
   rw [endsW_snoc,← k.ends x.w hxw]; rfl
  have hnew : ∀ w,w < h.wri.length → ∀ i,i < (p[w]!).length → (p[w]!)[i]! ≠ (c : Int) := fun w hw' i hi q => by
   have : x.done.testBit c = true := (k.done c hc).2 ⟨w,hw',by rw [← q,getD_any hi]; exact List.getElem_mem hi⟩
   rw [g2] at this; cases this
  have hlast : (p[x.w]! ++ [(c : Int)])[(p[x.w]!).length]! = (c : Int) := by rw [getD_any (by simp)]; simp
  have hinit : ∀ i,i < (p[x.w]!).length → (p[x.w]! ++ [(c : Int)])[i]! = (p[x.w]!)[i]! := fun i hi => by rw [getD_any (by rw [List.length_append,List.length_singleton]; omega),getD_any hi,List.getElem_append_left hi]
  refine ⟨⟨k.w,by rw [List.length_set]; exact k.len,by show (x.at_.set _ _).length = 3; rw [List.length_set]; exact k.at_,fun w h1 h2 => ?_,fun w hw' => ?_,fun w hw' i hi => ?_,fun d hd => ?_,fun w v i j hw' hv hi hj q => ?_⟩,rfl⟩
  ·have h1 : x.w < w := h1
   rw [hgs,if_neg (by omega)]
   exact k.rest w h1 h2
  ·rw [hat,hgs]
   by_cases q : x.w = w
   ·subst q; rw [if_pos rfl,if_pos rfl,hec]
   ·rw [if_neg q,if_neg q]; exact k.ends w hw'
  ·rw [hgs] at hi ⊢
   by_cases q : x.w = w
   ·subst q
    rw [if_pos rfl] at hi ⊢
    by_cases q2 : i < (p[x.w]!).length
    ·rw [hinit i q2,List.take_append_of_le_length (by omega)]
     exact k.good x.w hxw i q2
    ·have hi2 : i = (p[x.w]!).length := by rw [List.length_append,List.length_singleton] at hi; omega
     subst hi2
     refine ⟨c,hlast,hc,g3,?_⟩
     rw [List.take_of_length_le (by simp),← hec]
     exact g4
   ·rw [if_neg q] at hi ⊢
    exact k.good w hw' i hi
  ·show (x.done ||| 2 ^ c).testBit d = true ↔ _
   rw [Nat.testBit_or,Nat.testBit_two_pow,Bool.or_eq_true,k.done d hd,decide_eq_true_eq]
   constructor
   ·rintro (⟨w,hw',q⟩ | q)
    ·refine ⟨w,hw',?_⟩
     rw [hgs]
     split
     ·rename_i q2; subst q2; exact List.mem_append_left _ q
     ·exact q
    ·subst q
     exact ⟨x.w,hxw,by rw [hgs,if_pos rfl]; simp⟩
   ·rintro ⟨w,hw',q⟩
    rw [hgs] at q
    by_cases q2 : x.w = w
    ·subst q2
     rw [if_pos rfl] at q
     rcases List.mem_append.1 q with q | q
     ·exact .inl ⟨x.w,hxw,q⟩
     ·rw [List.mem_singleton] at q; exact .inr (by omega)
    ·rw [if_neg q2] at q
     exact .inl ⟨w,hw',q⟩
  ·rw [hgs] at hi q
   rw [hgs] at hj q
   have hW : ∀ {w i},i < (if x.w = w then p[x.w]! ++ [(c : Int)] else p[w]!).length → (i < (p[w]!).length ∧ (if x.w = w then p[x.w]! ++ [(c : Int)] else p[w]!)[i]! = (p[w]!)[i]!) ∨ (x.w = w ∧ i = (p[w]!).length ∧ (if x.w = w then p[x.w]! ++ [(c : Int)] else p[w]!)[i]! = (c : Int)) := fun {w i} hi => by
    by_cases q : x.w = w
    ·subst q
     rw [if_pos rfl] at hi ⊢
     by_cases q2 : i < (p[x.w]!).length
     ·exact .inl ⟨q2,hinit i q2⟩
     ·have : i = (p[x.w]!).length := by rw [List.length_append,List.length_singleton] at hi; omega
      subst this
      exact .inr ⟨rfl,rfl,hlast⟩
    ·rw [if_neg q] at hi ⊢
     exact .inl ⟨hi,rfl⟩
   rcases hW hi with ⟨a1,a2⟩ | ⟨a1,a2,a3⟩ <;> rcases hW hj with ⟨b1,b2⟩ | ⟨b1,b2,b3⟩
   ·rw [a2,b2] at q
    exact k.once w v i j hw' hv a1 b1 q
   ·rw [a2,b3] at q
    exact absurd q (hnew w hw' i a1)
   ·rw [a3,b2] at q
    exact absurd q.symm (hnew v hv j b1)
   ·subst a1; subst b1
    exact ⟨rfl,by omega⟩
theorem find_plan {h : RHall} (hn : h.wri.length ≤ 3) {ws cs : Nat} {o : Int} (ho : 0 ≤ o) : ∀ (f : Nat) (x : Stand) (p : List (List Int)),leftD h x < f → overD h ws cs x = o → PlanOk h ws x p →
  ∃ y,y.w = h.wri.length ∧ y.done = cs ∧ PlanOk h ws y ((findF h ws cs o f x).foldl planStep (x.w,p)).2
 | 0,x,p,hf,_,_ => absurd hf (Nat.not_lt_zero _)
 | f + 1,x,p,hf,e,k => by
  unfold findF
  by_cases q : x.w = h.wri.length
  ·rw [if_pos q]
   refine ⟨x,q,?_,k⟩
   rw [over_end q] at e
   unfold baseD at e
   split at e
   ·rename_i q2; exact q2.2
   ·omega
  ·rw [if_neg q]
   have hw : x.w < h.wri.length := by have := k.w; omega
   obtain ⟨y0,hy0,e0⟩ := over_step hw e ho
   cases hfind : (nxtD h ws cs x).find? (fun y => decide (overD h ws cs y.2 = o)) with
   | none =>
    have := List.find?_eq_none.1 hfind y0 hy0
    rw [decide_eq_true_eq] at this
    exact absurd e0 this
   | some y =>
    have hy := List.mem_of_find?_eq_some hfind
    have he := List.find?_some hfind
    rw [decide_eq_true_eq] at he
    obtain ⟨k1,k2⟩ := plan_next k hn hy
    obtain ⟨l1,_⟩ := left_nxt k.w hy
    obtain ⟨z,z1,z2,z3⟩ := find_plan hn ho f y.2 (planStep (x.w,p) y.1).2 (by omega) he k1
    refine ⟨z,z1,z2,?_⟩
    rw [List.foldl_cons]
    have : planStep (x.w,p) y.1 = (y.2.w,(planStep (x.w,p) y.1).2) := Prod.ext k2 rfl
    rw [this]
    exact z3
/-! ### Errors of a plan -/
def noneP (h : RHall) (p : List (List Int)) : Bool := p.any fun l => l.any (offP 0 ((h.cus.length : Int) - 1))
def twiceP (p : List (List Int)) : Bool := decide (¬ p.flatten.Nodup)
def otherP (h : RHall) (ws : Nat) (p : List (List Int)) : Bool := (List.range p.length).any fun w => (p[w]!).any fun c => !canD h ws w c.toNat
def enterD (h : RHall) (p : List (List Int)) : Int :=
 if (checkD h).2.2 ≠ 0 then (checkD h).2.2 else if p.length ≠ h.wri.length then 3 else if noneP h p = true then 4 else if twiceP p = true then 5 else if otherP h (2 ^ h.wri.length - 1) p = true then 2 else if p.flatten.length < h.cus.length then 8 else 0
/-! ### When letters are sealed -/
def endStep (h : RHall) (s : (Int × Int) × List (Int × Int)) (c : Int) : (Int × Int) × List (Int × Int) :=
 ((s.1.1 + (h.cus[c.toNat]!).lo + h.sl,s.1.2 + (h.cus[c.toNat]!).hi + h.sl),s.2.set c.toNat (s.1.1 + (h.cus[c.toNat]!).lo + h.sl,s.1.2 + (h.cus[c.toNat]!).hi + h.sl))
def endsOne (h : RHall) (w : Nat) (l : List (Int × Int)) (own : List Int) : List (Int × Int) := (own.foldl (endStep h) (((h.wri[w]!).lo,(h.wri[w]!).hi),l)).2
def endsTo (h : RHall) (p : List (List Int)) (n : Nat) : List (Int × Int) := (List.range n).foldl (fun l w => endsOne h w l (p[w]!)) (List.replicate h.cus.length (0,0))
def endsR (h : RHall) (p : List (List Int)) : List (Int × Int) := endsTo h p p.length
theorem endsTo_succ (h : RHall) (p : List (List Int)) (n : Nat) : endsTo h p (n + 1) = endsOne h n (endsTo h p n) (p[n]!) := by
 unfold endsTo; rw [List.range_succ,List.foldl_append]; rfl
def hiF (h : RHall) (t : Int) (l : List Int) : Int := l.foldl (fun t c => t + (h.cus[c.toNat]!).hi + h.sl) t
theorem ends_fold (h : RHall) : ∀ (own : List Int) (s : Int × Int) (l : List (Int × Int)),(∀ x ∈ own,∃ c : Nat,x = c ∧ c < h.cus.length) → l.length = h.cus.length →
  (own.foldl (endStep h) (s,l)).2.length = h.cus.length ∧ (∀ d : Nat,d < h.cus.length → (d : Int) ∉ own → (own.foldl (endStep h) (s,l)).2[d]! = l[d]!) ∧
  (∀ i,i < own.length → (∀ j,i < j → j < own.length → own[j]! ≠ own[i]!) → ((own.foldl (endStep h) (s,l)).2[(own[i]!).toNat]!).2 = hiF h s.2 (own.take (i + 1)))
 | [],s,l,_,hl => ⟨hl,fun _ _ _ => rfl,fun i hi => absurd hi (Nat.not_lt_zero _)⟩
 | x :: own,s,l,hx,hl => by
  obtain ⟨c,rfl,hc⟩ := hx x (by simp)
  rw [List.foldl_cons]
  have hstep : endStep h (s,l) (c : Int) = ((s.1 + (h.cus[c]!).lo + h.sl,s.2 + (h.cus[c]!).hi + h.sl),l.set c (s.1 + (h.cus[c]!).lo + h.sl,s.2 + (h.cus[c]!).hi + h.sl)) := rfl
  rw [hstep]
  obtain ⟨i1,i2,i3⟩ := ends_fold h own (s.1 + (h.cus[c]!).lo + h.sl,s.2 + (h.cus[c]!).hi + h.sl) (l.set c (s.1 + (h.cus[c]!).lo + h.sl,s.2 + (h.cus[c]!).hi + h.sl)) (fun y hy => hx y (List.mem_cons_of_mem _ hy)) (by rw [List.length_set]; exact hl)
  refine ⟨i1,fun d hd hn => ?_,fun i hi hq => ?_⟩
  ·rw [i2 d hd (fun q => hn (List.mem_cons_of_mem _ q)),getD_set (by omega),if_neg (fun q => hn (by rw [q]; simp))]
  ·cases i with
   | zero =>
    have hno : (c : Int) ∉ own := fun q => by
     obtain ⟨j,hj,e⟩ := List.mem_iff_getElem.1 q
     refine hq (j + 1) (by omega) (by simpa using hj) ?_
     rw [getD_any (by simpa using hj)]
     simpa using e
    show ((own.foldl (endStep h) _).2[((c : Int)).toNat]!).2 = _
    rw [Int.toNat_natCast,i2 c hc hno,getD_set (by omega),if_pos rfl]
    rfl
   | succ i =>
    have hi' : i < own.length := by simpa using hi
    have := i3 i hi' (fun j h1 h2 q => hq (j + 1) (by omega) (by simpa using h2) (by
     rw [getD_any h2] at q
     rw [getD_any hi'] at q
     rw [getD_any (by simpa using h2),getD_any hi]
     simpa using q))
    rw [getD_any hi'] at this
    rw [getD_any hi]
    simp only [List.getElem_cons_succ]
    rw [this,List.take_succ_cons]
    rfl
theorem plan_ends {h : RHall} {ws : Nat} {x : Stand} {p : List (List Int)} (k : PlanOk h ws x p) : ∀ n,n ≤ h.wri.length → (endsTo h p n).length = h.cus.length ∧
  ∀ w,w < n → ∀ i,i < (p[w]!).length → ((endsTo h p n)[((p[w]!)[i]!).toNat]!).2 = endsW h w ((p[w]!).take (i + 1))
 | 0,_ => ⟨by simp [endsTo],fun w hw => absurd hw (Nat.not_lt_zero _)⟩
 | n + 1,hn => by
  obtain ⟨i1,i2⟩ := plan_ends k n (by omega)
  rw [endsTo_succ]
  have hm : ∀ w,w < h.wri.length → ∀ x ∈ p[w]!,∃ c : Nat,x = c ∧ c < h.cus.length := fun w hw y hy => by
   obtain ⟨i,hi,e⟩ := List.mem_iff_getElem.1 hy
   obtain ⟨c,c1,c2,_⟩ := k.good w hw i hi
   rw [getD_any hi,e] at c1
   exact ⟨c,c1,c2⟩
  obtain ⟨e1,e2,e3⟩ := ends_fold h (p[n]!) ((h.wri[n]!).lo,(h.wri[n]!).hi) (endsTo h p n) (hm n (by omega)) i1
  refine ⟨e1,fun w hw i hi => ?_⟩
  by_cases q : w = n
  ·subst q
   refine e3 i hi fun j h1 h2 q => ?_
   obtain ⟨_,q2⟩ := k.once w w j i (by omega) (by omega) h2 hi q
   omega
  ·obtain ⟨c,c1,c2,_⟩ := k.good w (by omega) i hi
   rw [c1,Int.toNat_natCast]
   have : (c : Int) ∉ p[n]! := fun q2 => by
    obtain ⟨j,hj,e⟩ := List.mem_iff_getElem.1 q2
    obtain ⟨q3,_⟩ := k.once w n i j (by omega) (by omega) hi hj (by rw [c1,getD_any hj,e])
    exact q q3
   show ((((p[n]!).foldl (endStep h) _).2)[c]!).2 = _
   rw [e2 c c2 this]
   have := i2 w (by omega) i hi
   rw [c1,Int.toNat_natCast] at this
   exact this
theorem endsW_pos {h : RHall} (hd : DOk h) {w : Nat} (hw : w < h.wri.length) : ∀ (l : List Int),(∀ x ∈ l,∃ c : Nat,x = c ∧ c < h.cus.length) → 0 ≤ endsW h w l := by
 have key : ∀ (l : List Int) (t : Int),0 ≤ t → (∀ x ∈ l,∃ c : Nat,x = c ∧ c < h.cus.length) → 0 ≤ hiF h t l := by
  intro l
  induction l with
  | nil => intro t ht _; exact ht
  | cons x l ih =>
   intro t ht hx
   obtain ⟨c,rfl,hc⟩ := hx x (by simp)
   have h1 := (hd.cus c hc).2.1
   have h2 := hd.sl
   refine ih (t + (h.cus[((c : Int)).toNat]!).hi + h.sl) ?_ fun y hy => hx y (List.mem_cons_of_mem _ hy)
   rw [Int.toNat_natCast]; omega
 intro l hl
 have := (hd.wri w hw).2
 exact key l _ (by omega) hl
theorem plan_mem {h : RHall} {ws : Nat} {x : Stand} {p : List (List Int)} (k : PlanOk h ws x p) {w : Nat} (hw : w < h.wri.length) {y : Int} (hy : y ∈ p[w]!) : ∃ c : Nat,y = c ∧ c < h.cus.length ∧ canD h ws w c = true := by
 obtain ⟨i,hi,e⟩ := List.mem_iff_getElem.1 hy
 obtain ⟨c,c1,c2,c3,_⟩ := k.good w hw i hi
 rw [getD_any hi,e] at c1
 exact ⟨c,c1,c2,c3⟩
theorem plan_nodup {h : RHall} {ws : Nat} {x : Stand} {p : List (List Int)} (k : PlanOk h ws x p) : p.flatten.Nodup := by
 refine List.pairwise_flatten.2 ⟨fun l hl => ?_,?_⟩
 ·obtain ⟨w,hw,rfl⟩ := List.mem_iff_getElem.1 hl
  have hw' : w < h.wri.length := by rw [← k.len]; exact hw
  refine List.pairwise_iff_getElem.2 fun i j hi hj hij e => ?_
  have := (k.once w w i j hw' hw' (by rw [getD_any hw]; exact hi) (by rw [getD_any hw]; exact hj) (by rw [getD_any hw,getD_any hi,getD_any hj]; exact e)).2
  omega
 ·refine List.pairwise_iff_getElem.2 fun w v hw hv hwv a ha b hb e => ?_
  subst e
  obtain ⟨i,hi,ei⟩ := List.mem_iff_getElem.1 ha
  obtain ⟨j,hj,ej⟩ := List.mem_iff_getElem.1 hb
  have := (k.once w v i j (by rw [← k.len]; exact hw) (by rw [← k.len]; exact hv) (by rw [getD_any hw]; exact hi) (by rw [getD_any hv]; exact hj) (by rw [getD_any hw,getD_any hv,getD_any hi,getD_any hj,ei,ej])).1
  omega
theorem plan_good {h : RHall} (hd : DOk h) (q : (checkD h).2.2 = 0) {x : Stand} {p : List (List Int)} (k : PlanOk h (2 ^ h.wri.length - 1) x p) (hx : x.done = 2 ^ h.cus.length - 1) :
  enterD h p = 0 ∧ (endsR h p).length = h.cus.length ∧ ∀ c : Nat,c < h.cus.length → 0 ≤ ((endsR h p)[c]!).2 ∧ ((endsR h p)[c]!).2 ≤ (h.cus[c]!).ship := by
 have hbit : ∀ c,c < h.cus.length → x.done.testBit c = true := fun c hc => by rw [hx,Nat.testBit_two_pow_sub_one]; exact decide_eq_true hc
 have hin : ∀ c : Nat,c < h.cus.length → ∃ w,w < h.wri.length ∧ (c : Int) ∈ p[w]! := fun c hc => (k.done c hc).1 (hbit c hc)
 refine ⟨?_,?_,fun c hc => ?_⟩
 ·have h4 : noneP h p = false := by
   unfold noneP
   rw [List.any_eq_false]
   intro l hl
   obtain ⟨w,hw,rfl⟩ := List.mem_iff_getElem.1 hl
   rw [Bool.not_eq_true,List.any_eq_false]
   intro y hy
   obtain ⟨c,rfl,hc,_⟩ := plan_mem k (by rw [← k.len]; exact hw) (by rw [getD_any hw]; exact hy)
   rw [Bool.not_eq_true,offP_false]
   omega
  have h5 : twiceP p = false := decide_eq_false fun w => w (plan_nodup k)
  have h2 : otherP h (2 ^ h.wri.length - 1) p = false := by
   unfold otherP
   rw [List.any_eq_false]
   intro w hw
   have hw := List.mem_range.1 hw
   rw [Bool.not_eq_true,List.any_eq_false]
   intro y hy
   obtain ⟨c,rfl,_,hc⟩ := plan_mem k (by rw [← k.len]; exact hw) hy
   rw [Int.toNat_natCast,hc]
   decide
  have h8 : h.cus.length ≤ p.flatten.length := by
   have := List.Nodup.length_le_of_subset (l₁ := (List.range h.cus.length).map fun c : Nat => (c : Int)) (l₂ := p.flatten) ?_ ?_
   ·rwa [List.length_map,List.length_range] at this
   ·refine List.pairwise_map.2 (List.Pairwise.imp ?_ List.nodup_range)
    intro a b hab e
    exact hab (by omega)
   ·intro y hy
    obtain ⟨c,hc,rfl⟩ := List.mem_map.1 hy
    obtain ⟨w,hw,hm⟩ := hin c (List.mem_range.1 hc)
    have hwp : w < p.length := by rw [k.len]; exact hw
    rw [getD_any hwp] at hm
    exact List.mem_flatten.2 ⟨_,List.getElem_mem hwp,hm⟩
  unfold enterD
  rw [if_neg (by omega),if_neg (by have := k.len; omega),if_neg (by rw [h4]; decide),if_neg (by rw [h5]; decide),if_neg (by rw [h2]; decide),if_neg (by omega)]
 ·unfold endsR
  rw [k.len]
  exact (plan_ends k _ (Nat.le_refl _)).1
 ·obtain ⟨w,hw,hm⟩ := hin c hc
  obtain ⟨i,hi,e⟩ := List.mem_iff_getElem.1 hm
  have h1 := (plan_ends k _ (Nat.le_refl _)).2 w hw i hi
  rw [getD_any hi,e,Int.toNat_natCast] at h1
  obtain ⟨d,d1,d2,_,d4⟩ := k.good w hw i hi
  rw [getD_any hi,e] at d1
  have : c = d := by omega
  subst this
  unfold endsR
  rw [k.len,h1]
  refine ⟨endsW_pos hd hw _ fun y hy => ?_,d4⟩
  obtain ⟨c',h1',h2',_⟩ := plan_mem k hw (List.mem_of_mem_take hy)
  exact ⟨c',h1',h2'⟩
def bestD (h : RHall) : List (List Int) × Int × Int :=
 if (checkD h).2.2 ≠ 0 then ([],0,(checkD h).2.2)
 else if overD h (2 ^ h.wri.length - 1) (2 ^ h.cus.length - 1) (begS h) < 0 then ([],0,9)
 else (planF h.wri.length (findF h (2 ^ h.wri.length - 1) (2 ^ h.cus.length - 1) (overD h (2 ^ h.wri.length - 1) (2 ^ h.cus.length - 1) (begS h)) (leftD h (begS h) + 1) (begS h)),overD h (2 ^ h.wri.length - 1) (2 ^ h.cus.length - 1) (begS h),0)
theorem best_good {h : RHall} (hd : DOk h) (e : (bestD h).2.2 = 0) : (checkD h).2.2 = 0 ∧ enterD h (bestD h).1 = 0 ∧ (endsR h (bestD h).1).length = h.cus.length ∧ ∀ c : Nat,c < h.cus.length → 0 ≤ ((endsR h (bestD h).1)[c]!).2 ∧ ((endsR h (bestD h).1)[c]!).2 ≤ (h.cus[c]!).ship := by
 unfold bestD at e ⊢
 by_cases q : (checkD h).2.2 = 0
 ·rw [if_neg (by omega)] at e ⊢
  by_cases q2 : overD h (2 ^ h.wri.length - 1) (2 ^ h.cus.length - 1) (begS h) < 0
  ·rw [if_pos q2] at e
   exact absurd e (by decide)
  ·rw [if_neg q2]
   obtain ⟨y,y1,y2,y3⟩ := find_plan hd.n (o := overD h (2 ^ h.wri.length - 1) (2 ^ h.cus.length - 1) (begS h)) (by omega) (leftD h (begS h) + 1) (begS h) (List.replicate h.wri.length []) (by omega) rfl (plan_begin h hd.n _)
   exact ⟨q,plan_good hd q y3 y2⟩
 ·rw [if_pos q] at e
  exact absurd e q
theorem idxL_cases {α : Type} (p : α → Bool) (l : List α) : idxL p l = -1 ∨ ∃ k,k < l.length ∧ idxL p l = (k : Int) := by
 induction l with
 | nil => exact .inl rfl
 | cons x l ih =>
  unfold idxL
  by_cases h : p x = true
  ·right; exact ⟨0,by simp,by simp [h]⟩
  ·rw [if_neg h]
   rcases ih with ih | ⟨k,h1,h2⟩
   ·left; rw [ih]; rfl
   ·right; exact ⟨k + 1,by simp; omega,by rw [if_neg (by omega),h2]; simp⟩
theorem indexCall_c (g : FuncId) (caps : List AV) (l : List RCall) (p : RCall → Bool) (h : ∀ x ∈ l,PCall Tryz.prog g ([callA x] ++ caps) (.bool (p x))) :
  PCall Tryz.prog 107 [.slice 2 (l.map callA),.fn (.func g) [] caps] (.int .i64 (idxL p l)) := by
 intro m
 (refine acall_len Tryz.call107 fun hlen => ?_; refine acall_intro (E := env fun _ => .imm) (envOk _) rfl Tryz.func107 rfl Tryz.call107 (by kernel_rfl) (by simp [Tryz.ntmps107]) ?_; simp only [Tryz.f107];  simp(maxSteps:=9^9)only[↓VP,VQ,seval])
 simp only [lenOk_cons,lenOk_nil,List.length_map,and_true,maxLen_eq] at hlen
 intro _
 refine aloop (envOk _) (fun k : Nat => ⟨[(0,.v (.slice 2 (l.map callA))),(1,.v (.fn (.func g) [] caps)),(7,.v (.int .i64 l.length)),(8,.v (.int .i64 k))],[],[],m⟩) (fun k => k ≤ l.length ∧ ∀ x ∈ l.take k,p x = false) (fun k => l.length - k) 0 (fun _ => rfl) (by simp) (by (simp only [FE,↓FP,seval]); try simp) ?_
 intro k ⟨hk,hp⟩
 simp(maxSteps:=9^9)only[↓VP,VQ,seval,↓callA]
 repeat'(first|intro _|apply And.intro)
 all_goals try first|omega|(simp only[LL];omega)|exact nlC (by decide) _|exact nbC rfl
 ·have hlt : k < l.length := by omega
  have e1 : l[k]! = l[k] := getD_any hlt
  have hc := h l[k]! (by rw [e1]; exact List.getElem_mem hlt)
  simp only [callA,List.cons_append,List.nil_append] at hc
  refine ACall.pure hc ?_
  simp(maxSteps:=9^9)only[↓VP,VQ,seval]
  repeat'(first|intro _|apply And.intro)
  all_goals try first|omega|(simp only[LL];omega)|exact nlC (by decide) _|exact nbC rfl
  ·rename_i hpx
   rw [idxL_at hlt hp (by rw [← e1]; exact hpx)]
  ·have hpx : ¬ p l[k]! = true := by assumption
   refine ⟨k + 1,⟨by omega,forall_take_succ hlt hp (by rw [← e1]; simpa using hpx)⟩,by dsimp only; omega,?_⟩
   simp only [FE,↓FP,seval]
   simp
 ·have : l.take k = l := List.take_of_length_le (by omega)
  rw [this] at hp
  rw [idxL_neg hp]
theorem failingCall_c (g : FuncId) (caps : List AV) (l : List RCall) (f : Nat → RCall → Int) (h : ∀ (i : Nat) (hi : i < l.length),PCall Tryz.prog g ([.int .i64 i,callA l[i]] ++ caps) (.int .i64 (f i l[i]))) :
  PCall Tryz.prog 125 [.slice 2 (l.map callA),.fn (.func g) [] caps] (.tuple [.int .i64 (failFrom f 0 l).1,.int .i64 (failFrom f 0 l).2]) := by
 intro m
 refine acall_len Tryz.call125 fun hlen => ?_; (refine acall_intro (E := envC (modeAt [7] []) false []) (envCOk _ _ _) rfl Tryz.func125 rfl Tryz.call125 (by kernel_rfl) (by simp [Tryz.ntmps125]) ?_; simp only [Tryz.f125];  simp(maxSteps:=9^9)only[↓VP,VQ,seval])
 simp only [lenOk_cons,lenOk_nil,List.length_map,and_true,maxLen_eq] at hlen
 intro _
 refine aloop (envCOk _ _ _) (fun k : Nat => ⟨[(0,.v (.slice 2 (l.map callA))),(1,.v (.fn (.func g) [] caps)),(9,.v (.slice 2 (l.map callA))),(10,.v (.int .i64 l.length)),(11,.v (.int .i64 k))],[],[],m⟩)
  (fun k => k ≤ l.length ∧ failFrom f k (l.drop k) = failFrom f 0 l) (fun k => l.length - k) 0 (fun _ => rfl) (by simp) (by (simp only [FE,↓FP,seval]); try simp) ?_
 rintro k ⟨hk,hf⟩
 simp(maxSteps:=9^9)only[↓VP,VQ,seval,↓callA]
 repeat'(first|intro _|apply And.intro)
 all_goals try first|omega|(simp only[LL];omega)|exact nlC (by decide) _|exact nbC rfl
 ·have hlt : k < l.length := by omega
  have e1 : l[k]! = l[k] := getD_any hlt
  rw [List.drop_eq_getElem_cons hlt] at hf
  have hc := h k hlt
  rw [← e1] at hc
  simp only [callA,List.cons_append,List.nil_append] at hc
  refine ACall.pure hc ?_
  simp(maxSteps:=9^9)only[↓VP,VQ,seval]
  repeat'(first|intro _|apply And.intro)
  all_goals try first|omega|(simp only[LL];omega)|exact nlC (by decide) _|exact nbC rfl
  ·have hne : f k l[k]! ≠ 0 := by assumption
   rw [e1] at hne
   rw [← hf,failFrom_hit hne,e1]
  ·have heq : ¬ f k l[k]! ≠ 0 := by assumption
   rw [e1] at heq
   rw [failFrom_skip heq] at hf
   (refine ⟨k + 1,?_,by dsimp only; omega,?_⟩; rotate_left 1; · ((simp only [FE,↓FP,seval]); try simp []))
   exact ⟨by omega,hf⟩
 ·rw [List.drop_eq_nil_of_le (by omega)] at hf
  rw [← hf]; rfl
theorem indexShip_c (g : FuncId) (caps : List AV) (l : List RShip) (p : RShip → Bool) (h : ∀ x ∈ l,PCall Tryz.prog g ([shipA x] ++ caps) (.bool (p x))) :
  PCall Tryz.prog 124 [.slice 5 (l.map shipA),.fn (.func g) [] caps] (.int .i64 (idxL p l)) := by
 intro m
 (refine acall_len Tryz.call124 fun hlen => ?_; refine acall_intro (E := env fun _ => .imm) (envOk _) rfl Tryz.func124 rfl Tryz.call124 (by kernel_rfl) (by simp [Tryz.ntmps124]) ?_; simp only [Tryz.f124];  simp(maxSteps:=9^9)only[↓VP,VQ,seval])
 simp only [lenOk_cons,lenOk_nil,List.length_map,and_true,maxLen_eq] at hlen
 intro _
 refine aloop (envOk _) (fun k : Nat => ⟨[(0,.v (.slice 5 (l.map shipA))),(1,.v (.fn (.func g) [] caps)),(7,.v (.int .i64 l.length)),(8,.v (.int .i64 k))],[],[],m⟩) (fun k => k ≤ l.length ∧ ∀ x ∈ l.take k,p x = false) (fun k => l.length - k) 0 (fun _ => rfl) (by simp) (by (simp only [FE,↓FP,seval]); try simp) ?_
 intro k ⟨hk,hp⟩
 simp(maxSteps:=9^9)only[↓VP,VQ,seval,↓shipA,shipL]
 repeat'(first|intro _|apply And.intro)
 all_goals try first|omega|(simp only[LL];omega)|exact nlC (by decide) _|exact nbC rfl
 ·have hlt : k < l.length := by omega
  have e1 : l[k]! = l[k] := getD_any hlt
  have hc := h l[k]! (by rw [e1]; exact List.getElem_mem hlt)
  simp only [shipA,shipL,List.cons_append,List.nil_append] at hc
  refine ACall.pure hc ?_
  simp(maxSteps:=9^9)only[↓VP,VQ,seval]
  repeat'(first|intro _|apply And.intro)
  all_goals try first|omega|(simp only[LL];omega)|exact nlC (by decide) _|exact nbC rfl
  ·rename_i hpx
   rw [idxL_at hlt hp (by rw [← e1]; exact hpx)]
  ·have hpx : ¬ p l[k]! = true := by assumption
   refine ⟨k + 1,⟨by omega,forall_take_succ hlt hp (by rw [← e1]; simpa using hpx)⟩,by dsimp only; omega,?_⟩
   simp only [FE,↓FP,seval]
   simp
 ·have : l.take k = l := List.take_of_length_le (by omega)
  rw [this] at hp
  rw [idxL_neg hp]
theorem containsShip_c (g : FuncId) (caps : List AV) (l : List RShip) (p : RShip → Bool) (h : ∀ x ∈ l,PCall Tryz.prog g ([shipA x] ++ caps) (.bool (p x))) :
  PCall Tryz.prog 95 [.slice 5 (l.map shipA),.fn (.func g) [] caps] (.bool (l.any p)) := by
 intro m
 (refine acall_intro (E := env fun _ => .imm) (envOk _) rfl Tryz.func95 rfl Tryz.call95 (by kernel_rfl) (by simp [Tryz.ntmps95]) ?_; simp only [Tryz.f95];  simp(maxSteps:=9^9)only[↓VP,VQ,seval])
 refine ACall.pure (indexShip_c g caps l p h) ?_
 simp(maxSteps:=9^9)only[↓VP,VQ,seval]
 repeat'(first|intro _|apply And.intro)
 rw [idxL_any]
theorem failingShip_c (g : FuncId) (caps : List AV) (l : List RShip) (f : Nat → RShip → Int) (h : ∀ (i : Nat) (hi : i < l.length),PCall Tryz.prog g ([.int .i64 i,shipA l[i]] ++ caps) (.int .i64 (f i l[i]))) :
  PCall Tryz.prog 93 [.slice 5 (l.map shipA),.fn (.func g) [] caps] (.tuple [.int .i64 (failFrom f 0 l).1,.int .i64 (failFrom f 0 l).2]) := by
 intro m
 refine acall_len Tryz.call93 fun hlen => ?_; (refine acall_intro (E := envC (modeAt [7] []) false []) (envCOk _ _ _) rfl Tryz.func93 rfl Tryz.call93 (by kernel_rfl) (by simp [Tryz.ntmps93]) ?_; simp only [Tryz.f93];  simp(maxSteps:=9^9)only[↓VP,VQ,seval])
 simp only [lenOk_cons,lenOk_nil,List.length_map,and_true,maxLen_eq] at hlen
 intro _
 refine aloop (envCOk _ _ _) (fun k : Nat => ⟨[(0,.v (.slice 5 (l.map shipA))),(1,.v (.fn (.func g) [] caps)),(9,.v (.slice 5 (l.map shipA))),(10,.v (.int .i64 l.length)),(11,.v (.int .i64 k))],[],[],m⟩)
  (fun k => k ≤ l.length ∧ failFrom f k (l.drop k) = failFrom f 0 l) (fun k => l.length - k) 0 (fun _ => rfl) (by simp) (by (simp only [FE,↓FP,seval]); try simp) ?_
 rintro k ⟨hk,hf⟩
 simp(maxSteps:=9^9)only[↓VP,VQ,seval,↓shipA,shipL]
 repeat'(first|intro _|apply And.intro)
 all_goals try first|omega|(simp only[LL];omega)|exact nlC (by decide) _|exact nbC rfl
 ·have hlt : k < l.length := by omega
  have e1 : l[k]! = l[k] := getD_any hlt
  rw [List.drop_eq_getElem_cons hlt] at hf
  have hc := h k hlt
  rw [← e1] at hc
  simp only [shipA,shipL,List.cons_append,List.nil_append] at hc
  refine ACall.pure hc ?_
  simp(maxSteps:=9^9)only[↓VP,VQ,seval]
  repeat'(first|intro _|apply And.intro)
  all_goals try first|omega|(simp only[LL];omega)|exact nlC (by decide) _|exact nbC rfl
  ·have hne : f k l[k]! ≠ 0 := by assumption
   rw [e1] at hne
   rw [← hf,failFrom_hit hne,e1]
  ·have heq : ¬ f k l[k]! ≠ 0 := by assumption
   rw [e1] at heq
   rw [failFrom_skip heq] at hf
   (refine ⟨k + 1,?_,by dsimp only; omega,?_⟩; rotate_left 1; · ((simp only [FE,↓FP,seval]); try simp []))
   exact ⟨by omega,hf⟩
 ·rw [List.drop_eq_nil_of_le (by omega)] at hf
  rw [← hf]; rfl
theorem failingLet_c (g : FuncId) (caps : List AV) (l : List RLet) (f : Nat → RLet → Int) (h : ∀ (i : Nat) (hi : i < l.length),PCall Tryz.prog g ([.int .i64 i,letA l[i]] ++ caps) (.int .i64 (f i l[i]))) :
  PCall Tryz.prog 98 [.slice 3 (l.map letA),.fn (.func g) [] caps] (.tuple [.int .i64 (failFrom f 0 l).1,.int .i64 (failFrom f 0 l).2]) := by
 intro m
 refine acall_len Tryz.call98 fun hlen => ?_; (refine acall_intro (E := envC (modeAt [7] []) false []) (envCOk _ _ _) rfl Tryz.func98 rfl Tryz.call98 (by kernel_rfl) (by simp [Tryz.ntmps98]) ?_; simp only [Tryz.f98];  simp(maxSteps:=9^9)only[↓VP,VQ,seval])
 simp only [lenOk_cons,lenOk_nil,List.length_map,and_true,maxLen_eq] at hlen
 intro _
 refine aloop (envCOk _ _ _) (fun k : Nat => ⟨[(0,.v (.slice 3 (l.map letA))),(1,.v (.fn (.func g) [] caps)),(9,.v (.slice 3 (l.map letA))),(10,.v (.int .i64 l.length)),(11,.v (.int .i64 k))],[],[],m⟩)
  (fun k => k ≤ l.length ∧ failFrom f k (l.drop k) = failFrom f 0 l) (fun k => l.length - k) 0 (fun _ => rfl) (by simp) (by (simp only [FE,↓FP,seval]); try simp) ?_
 rintro k ⟨hk,hf⟩
 simp(maxSteps:=9^9)only[↓VP,VQ,seval,↓letA]
 repeat'(first|intro _|apply And.intro)
 all_goals try first|omega|(simp only[LL];omega)|exact nlC (by decide) _|exact nbC rfl
 ·have hlt : k < l.length := by omega
  have e1 : l[k]! = l[k] := getD_any hlt
  rw [List.drop_eq_getElem_cons hlt] at hf
  have hc := h k hlt
  rw [← e1] at hc
  simp only [letA,List.cons_append,List.nil_append] at hc
  refine ACall.pure hc ?_
  simp(maxSteps:=9^9)only[↓VP,VQ,seval]
  repeat'(first|intro _|apply And.intro)
  all_goals try first|omega|(simp only[LL];omega)|exact nlC (by decide) _|exact nbC rfl
  ·have hne : f k l[k]! ≠ 0 := by assumption
   rw [e1] at hne
   rw [← hf,failFrom_hit hne,e1]
  ·have heq : ¬ f k l[k]! ≠ 0 := by assumption
   rw [e1] at heq
   rw [failFrom_skip heq] at hf
   (refine ⟨k + 1,?_,by dsimp only; omega,?_⟩; rotate_left 1; · ((simp only [FE,↓FP,seval]); try simp []))
   exact ⟨by omega,hf⟩
 ·rw [List.drop_eq_nil_of_le (by omega)] at hf
  rw [← hf]; rfl
theorem failingRep_c (g : FuncId) (caps : List AV) (l : List RRep) (f : Nat → RRep → Int) (h : ∀ (i : Nat) (hi : i < l.length),PCall Tryz.prog g ([.int .i64 i,repA l[i]] ++ caps) (.int .i64 (f i l[i]))) :
  PCall Tryz.prog 100 [.slice 4 (l.map repA),.fn (.func g) [] caps] (.tuple [.int .i64 (failFrom f 0 l).1,.int .i64 (failFrom f 0 l).2]) := by
 intro m
 refine acall_len Tryz.call100 fun hlen => ?_; (refine acall_intro (E := envC (modeAt [7] []) false []) (envCOk _ _ _) rfl Tryz.func100 rfl Tryz.call100 (by kernel_rfl) (by simp [Tryz.ntmps100]) ?_; simp only [Tryz.f100];  simp(maxSteps:=9^9)only[↓VP,VQ,seval])
 simp only [lenOk_cons,lenOk_nil,List.length_map,and_true,maxLen_eq] at hlen
 intro _
 refine aloop (envCOk _ _ _) (fun k : Nat => ⟨[(0,.v (.slice 4 (l.map repA))),(1,.v (.fn (.func g) [] caps)),(9,.v (.slice 4 (l.map repA))),(10,.v (.int .i64 l.length)),(11,.v (.int .i64 k))],[],[],m⟩)
  (fun k => k ≤ l.length ∧ failFrom f k (l.drop k) = failFrom f 0 l) (fun k => l.length - k) 0 (fun _ => rfl) (by simp) (by (simp only [FE,↓FP,seval]); try simp) ?_
 rintro k ⟨hk,hf⟩
 simp(maxSteps:=9^9)only[↓VP,VQ,seval,↓repA]
 repeat'(first|intro _|apply And.intro)
 all_goals try first|omega|(simp only[LL];omega)|exact nlC (by decide) _|exact nbC rfl
 ·have hlt : k < l.length := by omega
  have e1 : l[k]! = l[k] := getD_any hlt
  rw [List.drop_eq_getElem_cons hlt] at hf
  have hc := h k hlt
  rw [← e1] at hc
  simp only [repA,List.cons_append,List.nil_append] at hc
  refine ACall.pure hc ?_
  simp(maxSteps:=9^9)only[↓VP,VQ,seval]
  repeat'(first|intro _|apply And.intro)
  all_goals try first|omega|(simp only[LL];omega)|exact nlC (by decide) _|exact nbC rfl
  ·have hne : f k l[k]! ≠ 0 := by assumption
   rw [e1] at hne
   rw [← hf,failFrom_hit hne,e1]
  ·have heq : ¬ f k l[k]! ≠ 0 := by assumption
   rw [e1] at heq
   rw [failFrom_skip heq] at hf
   (refine ⟨k + 1,?_,by dsimp only; omega,?_⟩; rotate_left 1; · ((simp only [FE,↓FP,seval]); try simp []))
   exact ⟨by omega,hf⟩
 ·rw [List.drop_eq_nil_of_le (by omega)] at hf
  rw [← hf]; rfl
theorem vidx4_0 (a b c d : AV) (K : AV → Prop) : VIdx [a,b,c,d] 0 K = K a := by simp [VIdx]
theorem vidx4_1 (a b c d : AV) (K : AV → Prop) : VIdx [a,b,c,d] 1 K = K b := by simp [VIdx]
theorem vidx4_2 (a b c d : AV) (K : AV → Prop) : VIdx [a,b,c,d] 2 K = K c := by simp [VIdx]
theorem vidx4_3 (a b c d : AV) (K : AV → Prop) : VIdx [a,b,c,d] 3 K = K d := by simp [VIdx]
theorem VPure.of {P : Program} {g : FuncId} {xs : List AV} {r : AV} {hd : Bool} {m : Mem} {K : AV → Prop} (h : PCall P g xs r) (hk : K r) : VPure P g xs hd m K .mk := ⟨r,.inl h,hk⟩
theorem VPure.at {P : Program} {g : FuncId} {xs : List AV} {r : AV} {m : Mem} {K : AV → Prop} (h : ACall P g xs m fun r' m' => r' = r ∧ m' = m) (hk : K r) : VPure P g xs false m K .mk := ⟨r,.inr ⟨rfl,h⟩,hk⟩
theorem at1_c (x : RCall) (p : Int) : PCall Tryz.prog 108 [callA x,.eptr [.int .i64 p]] (.bool (decide (x.port = p))) := by
 intro m
 simp only [callA]
 (refine acall_intro (E := env fun _ => .imm) (envOk _) rfl Tryz.func108 rfl Tryz.call108 (by kernel_rfl) (by simp [Tryz.ntmps108]) ?_; simp only [Tryz.f108];  simp(maxSteps:=9^9)only[↓VP,VQ,seval])
 repeat'(first|intro _|apply And.intro)
theorem at_c (s : RShip) (p : Int) : PCall Tryz.prog 75 [shipA s,.int .i64 p] (.int .i64 (atC s.calls p)) := by
 intro m
 have h := indexCall_c 108 [.eptr [.int .i64 p]] s.calls (fun c => decide (c.port = p)) fun x _ => at1_c x p
 simp only [shipA,shipL]
 (refine acall_intro (E := env fun _ => .imm) (envOk _) rfl Tryz.func75 rfl Tryz.call75 (by kernel_rfl) (by simp [Tryz.ntmps75]) ?_; simp only [Tryz.f75];  simp(maxSteps:=9^9)only[↓VP,VQ,seval])
 ((refine ACall.pure (h) ?_; try simp(maxSteps:=9^9)only[↓VP,VQ,seval]); try simp(maxSteps:=9^9)only[↓VP,VQ,seval,GL])
 rfl
theorem takes_c (s : RShip) (p d : Int) : PCall Tryz.prog 41 [shipA s,.int .i64 p,.int .i64 d] (.bool (takesB s p d)) := by
 intro m
 have h := at_c s p
 simp only [shipA,shipL] at *
 have e : takesB s p d = (decide (d ≤ s.sails) && decide (0 ≤ atC s.calls p)) := rfl
 (refine acall_intro (E := env fun _ => .imm) (envOk _) rfl Tryz.func41 rfl Tryz.call41 (by kernel_rfl) (by simp [Tryz.ntmps41]) ?_; simp only [Tryz.f41];  simp(maxSteps:=9^9)only[↓VP,VQ,seval])
 repeat'(first|intro _|apply And.intro)
 ·((refine ACall.pure (h) ?_; try simp(maxSteps:=9^9)only[↓VP,VQ,seval]); try simp(maxSteps:=9^9)only[↓VP,VQ,seval,GL])
  repeat'(first|intro _|apply And.intro)
  rw [e]; congr 1; simp [*]
 ·rw [e]; congr 1; simp [*]
theorem offTwo_c (lo hi a b : Int) : PCall Tryz.prog 56 [.int .i64 lo,.int .i64 hi,.slice 1 [.int .i64 a,.int .i64 b]] (.bool (offP lo hi a || offP lo hi b)) := by
 have h := off_c lo hi [a,b]
 simpa [ints] using h
def portsFit (h : RHarb) : Prop := 1 ≤ h.ports ∧ h.ports ≤ 4
theorem fit1_c (h : RHarb) (s : RShip) (i : Nat) (c : RCall) (hp : portsFit h) (hi : i < s.calls.length) (hl : s.calls.length ≤ 3) :
  PCall Tryz.prog 126 [.int .i64 i,callA c,.eptr (harbL h),.eptr (shipL s)] (.int .i64 (callErr h.ports s.calls i c)) := by
 intro m
 unfold portsFit at hp
 have h1 := offOne_c 0 (h.ports - 1) c.port
 have h2 := offOne_c 1 20 c.after
 have h3 := at_c s c.port
 have e : callErr h.ports s.calls i c = if offP 0 (h.ports - 1) c.port = true then 4 else if atC s.calls c.port < i then 5 else if offP 1 20 c.after = true then 7 else if 0 < i ∧ c.after ≤ (s.calls[i - 1]!).after then 2 else 0 := rfl
 simp only [harbL,callA,shipA,shipL] at *
 (refine acall_intro (E := env fun _ => .imm) (envOk _) rfl Tryz.func126 rfl Tryz.call126 (by kernel_rfl) (by simp [Tryz.ntmps126]) ?_; simp only [Tryz.f126];  simp(maxSteps:=9^9)only[↓VP,VQ,seval])
 repeat'(first|intro _|apply And.intro)
 all_goals try first|omega|(simp only[LL];omega)|exact nlC (by decide) _|exact nbC rfl
 ((refine ACall.pure (h1) ?_; try simp(maxSteps:=9^9)only[↓VP,VQ,seval]); try simp(maxSteps:=9^9)only[↓VP,VQ,seval,GL])
 repeat'(first|intro _|apply And.intro)
 all_goals try first|omega|(simp only[LL];omega)|exact nlC (by decide) _|exact nbC rfl
 ·have q : offP 0 (h.ports - 1) c.port = true := by assumption
  rw [e,if_pos q]
 ((refine ACall.pure (h3) ?_; try simp(maxSteps:=9^9)only[↓VP,VQ,seval]); try simp(maxSteps:=9^9)only[↓VP,VQ,seval,GL])
 repeat'(first|intro _|apply And.intro)
 all_goals try first|omega|(simp only[LL];omega)|exact nlC (by decide) _|exact nbC rfl
 ·have q : ¬ offP 0 (h.ports - 1) c.port = true := by assumption
  have q2 : atC s.calls c.port < i := by assumption
  rw [e,if_neg q,if_pos q2]
 ((refine ACall.pure (h2) ?_; try simp(maxSteps:=9^9)only[↓VP,VQ,seval]); try simp(maxSteps:=9^9)only[↓VP,VQ,seval,GL])
 repeat'(first|intro _|apply And.intro)
 all_goals try first|omega|(simp only[LL];omega)|exact nlC (by decide) _|exact nbC rfl
 ·have q : ¬ offP 0 (h.ports - 1) c.port = true := by assumption
  have q2 : ¬ atC s.calls c.port < i := by assumption
  have q3 : offP 1 20 c.after = true := by assumption
  rw [e,if_neg q,if_neg q2,if_pos q3]
 have q : ¬ offP 0 (h.ports - 1) c.port = true := by assumption
 have q2 : ¬ atC s.calls c.port < i := by assumption
 have q3 : ¬ offP 1 20 c.after = true := by assumption
 rw [if_neg q,if_neg q2,if_neg q3] at e
 have hn : ((i : Int) - 1).toNat = i - 1 := by omega
 (refine adraw (by first | exact envOk _ | exact envCOk _ _ _) mixed [⟨false,false,0⟩,⟨false,false,0⟩,⟨false,false,0⟩,⟨false,false,0⟩,⟨false,false,0⟩,⟨false,false,0⟩,⟨false,false,0⟩,⟨false,false,0⟩,⟨false,false,0⟩,⟨false,false,0⟩,⟨false,false,0⟩,⟨false,false,0⟩,⟨false,false,0⟩,⟨false,false,0⟩,⟨false,false,0⟩] (by kernel_rfl) ?_; show vcOpsD _ _ _ (_ :: _) _ _)
 simp(maxSteps:=9^9)only[↓VP,VQ,seval,↓callA,hn]
 repeat'(first|intro _|apply And.intro)
 all_goals try first|omega|(simp only[LL];omega)|exact nlC (by decide) _|exact nbC rfl
 all_goals (first | (rw [e]; (repeat' split) <;> first | rfl | (exfalso; omega) | (exfalso; simp_all; done) | (exfalso; simp_all; omega)))
theorem fit_c (h : RHarb) (s : RShip) (hp : portsFit h) : PCall Tryz.prog 97 [harbA h,shipA s] (.int .i64 (fitE h.ports s)) := by
 intro m
 have h1 := offOne_c 0 20 s.sails
 have h2 := offTwo_c 0 3 s.lo s.hi
 have h3 := fun (hl : s.calls.length ≤ 3) => failingCall_c 126 [.eptr (harbL h),.eptr (shipL s)] s.calls (callErr h.ports s.calls) fun i hi => fit1_c h s i s.calls[i] hp hi hl
 have e : fitE h.ports s = if (offP 0 20 s.sails || (offP 0 3 s.lo || offP 0 3 s.hi)) = true then 7 else if s.hi < s.lo then 2 else if 3 < s.calls.length then 3 else (failFrom (callErr h.ports s.calls) 0 s.calls).2 := rfl
 generalize failFrom (callErr h.ports s.calls) 0 s.calls = ff at *
 simp only [harbA,harbL,shipA,shipL] at *
 (refine acall_intro (E := envC (modeAt [7,22,30] []) false []) (envCOk _ _ _) rfl Tryz.func97 rfl Tryz.call97 (by kernel_rfl) (by simp [Tryz.ntmps97]) ?_; simp only [Tryz.f97];  simp(maxSteps:=9^9)only[↓VP,VQ,seval])
 repeat'(first|intro _|apply And.intro)
 all_goals try first|omega|(simp only[LL];omega)|exact nlC (by decide) _|exact nbC rfl
 ((refine ACall.pure (h1) ?_; try simp(maxSteps:=9^9)only[↓VP,VQ,seval]); try simp(maxSteps:=9^9)only[↓VP,VQ,seval,GL])
 repeat'(first|intro _|apply And.intro)
 all_goals try first|omega|(simp only[LL];omega)|exact nlC (by decide) _|exact nbC rfl
 ·((refine ACall.pure (h2) ?_; try simp(maxSteps:=9^9)only[↓VP,VQ,seval]); try simp(maxSteps:=9^9)only[↓VP,VQ,seval,GL])
  repeat'(first|intro _|apply And.intro)
  all_goals try first|omega|(simp only[LL];omega)|exact nlC (by decide) _|exact nbC rfl
  ·(first | (rw [e]; (repeat' split) <;> first | rfl | (exfalso; omega) | (exfalso; simp_all; done) | (exfalso; simp_all; omega)))
  ·(first | (rw [e]; (repeat' split) <;> first | rfl | (exfalso; omega) | (exfalso; simp_all; done) | (exfalso; simp_all; omega)))
  ·(first | (rw [e]; (repeat' split) <;> first | rfl | (exfalso; omega) | (exfalso; simp_all; done) | (exfalso; simp_all; omega)))
  ·have hl : s.calls.length ≤ 3 := by omega
   have h3' := h3 hl
   ((refine ACall.pure (h3') ?_; try simp(maxSteps:=9^9)only[↓VP,VQ,seval]); try simp(maxSteps:=9^9)only[↓VP,VQ,seval,GL])
   (first | (rw [e]; (repeat' split) <;> first | rfl | (exfalso; omega) | (exfalso; simp_all; done) | (exfalso; simp_all; omega)))
 ·(first | (rw [e]; (repeat' split) <;> first | rfl | (exfalso; omega) | (exfalso; simp_all; done) | (exfalso; simp_all; omega)))
theorem check11_c (x s : RShip) : PCall Tryz.prog 96 [shipA x,.eptr (shipL s)] (.bool (decide (x.name = s.name))) := by
 intro m
 simp only [shipA,shipL]
 (refine acall_intro (E := env fun _ => .imm) (envOk _) rfl Tryz.func96 rfl Tryz.call96 (by kernel_rfl) (by simp [Tryz.ntmps96]) ?_; simp only [Tryz.f96];  simp(maxSteps:=9^9)only[↓VP,VQ,seval])
theorem check1_c (h : RHarb) (hp : portsFit h) (i : Nat) (s : RShip) (hi : i ≤ h.ships.length) (hs : s.name.size ≤ 9223372036854775807) :
  PCall Tryz.prog 94 [.int .i64 i,shipA s,.eptr (harbL h)] (.int .i64 (shipErr h.ports h.ships i s)) := by
 intro m
 have h1 := name_c s.name hs
 have h2 := containsShip_c 96 [.eptr (shipL s)] (h.ships.take i) (fun x => decide (x.name = s.name)) fun x _ => check11_c x s
 have h3 := fit_c h s hp
 have e : shipErr h.ports h.ships i s = if nameB s.name = true then (if (h.ships.take i).any (fun x => decide (x.name = s.name)) = true then 5 else fitE h.ports s) else 6 := rfl
 generalize (h.ships.take i).any (fun x => decide (x.name = s.name)) = tw at *
 generalize fitE h.ports s = fe at *
 rw [List.map_take] at h2
 simp only [harbA,harbL,shipA,shipL] at *
 (refine acall_intro (E := envC (modeAt [6,11] []) false []) (envCOk _ _ _) rfl Tryz.func94 rfl Tryz.call94 (by kernel_rfl) (by simp [Tryz.ntmps94]) ?_; simp only [Tryz.f94];  simp(maxSteps:=9^9)only[↓VP,VQ,seval])
 repeat'(first|intro _|apply And.intro)
 all_goals try first|omega|(simp only[LL];omega)|exact nlC (by decide) _|exact nbC rfl
 ((refine ACall.pure (h1) ?_; try simp(maxSteps:=9^9)only[↓VP,VQ,seval]); try simp(maxSteps:=9^9)only[↓VP,VQ,seval,GL])
 repeat'(first|intro _|apply And.intro)
 all_goals try first|omega|(simp only[LL];omega)|exact nlC (by decide) _|exact nbC rfl
 ·(first | (rw [e]; (repeat' split) <;> first | rfl | (exfalso; omega) | (exfalso; simp_all; done) | (exfalso; simp_all; omega)))
 ((refine ACall.pure (h2) ?_; try simp(maxSteps:=9^9)only[↓VP,VQ,seval]); try simp(maxSteps:=9^9)only[↓VP,VQ,seval,GL])
 repeat'(first|intro _|apply And.intro)
 all_goals try first|omega|(simp only[LL];omega)|exact nlC (by decide) _|exact nbC rfl
 ·(first | (rw [e]; (repeat' split) <;> first | rfl | (exfalso; omega) | (exfalso; simp_all; done) | (exfalso; simp_all; omega)))
 ((refine ACall.pure (h3) ?_; try simp(maxSteps:=9^9)only[↓VP,VQ,seval]); try simp(maxSteps:=9^9)only[↓VP,VQ,seval,GL])
 repeat'(first|intro _|apply And.intro)
 all_goals try first|omega|(simp only[LL];omega)|exact nlC (by decide) _|exact nbC rfl
 (first | (rw [e]; (repeat' split) <;> first | rfl | (exfalso; omega) | (exfalso; simp_all; done) | (exfalso; simp_all; omega)))
theorem check2_c (h : RHarb) (hp : portsFit h) (hs : h.ships.length ≤ 3) (i : Nat) (x : RLet) :
  PCall Tryz.prog 99 [.int .i64 i,letA x,.eptr (harbL h)] (.int .i64 (letErr h.ports h.ships x)) := by
 intro m
 unfold portsFit at hp
 have h1 := offOne_c 0 (h.ports - 1) x.port
 have h2 := offOne_c 0 20 x.day
 have h3 := offOne_c (-1) ((h.ships.length : Int) - 1) x.ship
 have h4 := takes_c (h.ships[x.ship.toNat]!) x.port x.day
 have e : letErr h.ports h.ships x = if offP 0 (h.ports - 1) x.port = true then 4 else if offP 0 20 x.day = true then 7 else if offP (-1) ((h.ships.length : Int) - 1) x.ship = true then 4
  else if x.ship ≠ -1 ∧ takesB (h.ships[x.ship.toNat]!) x.port x.day = false then 2 else 0 := rfl
 have hof : ¬ offP (-1) ((h.ships.length : Int) - 1) x.ship = true → -1 ≤ x.ship ∧ x.ship ≤ (h.ships.length : Int) - 1 := fun q => by simp [offP] at q; omega
 generalize takesB (h.ships[x.ship.toNat]!) x.port x.day = tk at *
 simp only [harbA,harbL,letA,shipA,shipL] at h1 h2 h3 h4 ⊢
 (refine acall_intro (E := envC (modeAt [6,14,19,28] []) false []) (envCOk _ _ _) rfl Tryz.func99 rfl Tryz.call99 (by kernel_rfl) (by simp [Tryz.ntmps99]) ?_; simp only [Tryz.f99];  simp(maxSteps:=9^9)only[↓VP,VQ,seval])
 repeat'(first|intro _|apply And.intro)
 all_goals try first|omega|(simp only[LL];omega)|exact nlC (by decide) _|exact nbC rfl
 ((refine ACall.pure (h1) ?_; try simp(maxSteps:=9^9)only[↓VP,VQ,seval]); try simp(maxSteps:=9^9)only[↓VP,VQ,seval,GL])
 repeat'(first|intro _|apply And.intro)
 all_goals try first|omega|(simp only[LL];omega)|exact nlC (by decide) _|exact nbC rfl
 ·(first | (rw [e]; (repeat' split) <;> first | rfl | (exfalso; omega) | (exfalso; simp_all; done) | (exfalso; simp_all; omega)))
 ((refine ACall.pure (h2) ?_; try simp(maxSteps:=9^9)only[↓VP,VQ,seval]); try simp(maxSteps:=9^9)only[↓VP,VQ,seval,GL])
 repeat'(first|intro _|apply And.intro)
 all_goals try first|omega|(simp only[LL];omega)|exact nlC (by decide) _|exact nbC rfl
 ·(first | (rw [e]; (repeat' split) <;> first | rfl | (exfalso; omega) | (exfalso; simp_all; done) | (exfalso; simp_all; omega)))
 ((refine ACall.pure (h3) ?_; try simp(maxSteps:=9^9)only[↓VP,VQ,seval]); try simp(maxSteps:=9^9)only[↓VP,VQ,seval,GL])
 repeat'(first|intro _|apply And.intro)
 all_goals try first|omega|(simp only[LL];omega)|exact nlC (by decide) _|exact nbC rfl
 ·(first | (rw [e]; (repeat' split) <;> first | rfl | (exfalso; omega) | (exfalso; simp_all; done) | (exfalso; simp_all; omega)))
 (refine adraw (by first | exact envOk _ | exact envCOk _ _ _) mixed [⟨false,false,0⟩,⟨false,false,0⟩,⟨false,false,0⟩,⟨false,false,0⟩,⟨false,false,0⟩,⟨false,false,0⟩,⟨false,false,0⟩,⟨false,false,0⟩,⟨false,false,0⟩,⟨false,false,0⟩,⟨false,false,0⟩,⟨false,false,0⟩,⟨false,false,0⟩,⟨false,false,0⟩,⟨false,false,0⟩,⟨false,false,0⟩,⟨false,false,0⟩,⟨false,false,0⟩] (by kernel_rfl) ?_; show vcOpsD _ _ _ (_ :: _) _ _)
 simp(maxSteps:=9^9)only[↓VP,VQ,seval,↓shipA,shipL]
 repeat'(first|intro _|apply And.intro)
 all_goals try first|omega|(simp only[LL];omega)|exact nlC (by decide) _|exact nbC rfl
 ·have := hof (by assumption); omega
 ·have := hof (by assumption); omega
 ·refine VPure.of h4 ?_
  simp(maxSteps:=9^9)only[↓VP,VQ,seval]
  repeat'(first|intro _|apply And.intro)
  all_goals try first|omega|(simp only[LL];omega)|exact nlC (by decide) _|exact nbC rfl
  all_goals (first | (rw [e]; (repeat' split) <;> first | rfl | (exfalso; omega) | (exfalso; simp_all; done) | (exfalso; simp_all; omega)))
 all_goals (first | (rw [e]; (repeat' split) <;> first | rfl | (exfalso; omega) | (exfalso; simp_all; done) | (exfalso; simp_all; omega)))
theorem check3_c (h : RHarb) (hp : portsFit h) (hs : h.ships.length ≤ 3) (hl : h.letters.length ≤ 4) (i : Int) (x : RRep) :
  PCall Tryz.prog 101 [.int .i64 i,repA x,.eptr (harbL h)] (.int .i64 (repErr h.ports h.ships.length h.letters.length x)) := by
 intro m
 unfold portsFit at hp
 obtain ⟨kind,of_,port,day⟩ := x
 have h1 := offOne_c 0 3 kind
 have h2 := offOne_c 0 ((h.ships.length : Int) - 1) of_
 have h2' := offOne_c 0 ((h.letters.length : Int) - 1) of_
 have h3 := offOne_c 0 (h.ports - 1) port
 have h4 := offOne_c 0 60 day
 have e : repErr h.ports h.ships.length h.letters.length ⟨kind,of_,port,day⟩ = if offP 0 3 kind = true then 7 else if (offP 0 ((if kind < 2 then (h.ships.length : Int) else h.letters.length) - 1) of_ || offP 0 (h.ports - 1) port) = true then 4
  else if 2 ≤ kind ∧ port ≠ 0 then 2 else if offP 0 60 day = true then 7 else 0 := rfl
 by_cases hk : 0 ≤ kind ∧ kind ≤ 3
 ·have hk4 : kind = 0 ∨ kind = 1 ∨ kind = 2 ∨ kind = 3 := by omega
  have hof : offP 0 3 kind = false := by simp [offP]; omega
  rw [hof] at h1
  rcases hk4 with rfl | rfl | rfl | rfl
  all_goals
   rw [if_neg (by rw [hof]; simp)] at e
   simp only [Int.reduceLT,↓reduceIte] at e
   simp only [harbA,harbL,repA] at *
   (refine acall_intro (E := envC (modeAt [6,24,44,53] []) false []) (envCOk _ _ _) rfl Tryz.func101 rfl Tryz.call101 (by kernel_rfl) (by simp [Tryz.ntmps101]) ?_; simp only [Tryz.f101];  simp(maxSteps:=9^9)only[↓VP,VQ,seval])
   repeat'(first|intro _|apply And.intro)
   all_goals try first|omega|(simp only[LL];omega)|exact nlC (by decide) _|exact nbC rfl
   ((refine ACall.pure (h1) ?_; try simp(maxSteps:=9^9)only[↓VP,VQ,seval]); try simp(maxSteps:=9^9)only[↓VP,VQ,seval,GL])
   repeat'(first|intro _|apply And.intro)
   all_goals try first|omega|(simp only[LL];omega)|exact nlC (by decide) _|exact nbC rfl
   (refine adraw (by first | exact envOk _ | exact envCOk _ _ _) mixed [⟨false,false,0⟩,⟨false,false,0⟩,⟨false,false,0⟩,⟨false,false,0⟩,⟨false,false,0⟩,⟨false,false,0⟩,⟨false,false,0⟩,⟨false,false,0⟩,⟨false,false,0⟩,⟨false,false,0⟩,⟨false,false,0⟩,⟨false,false,0⟩,⟨false,false,0⟩,⟨false,false,0⟩,⟨false,false,0⟩,⟨false,false,0⟩,⟨false,false,0⟩,⟨false,false,0⟩,⟨false,false,0⟩,⟨false,false,0⟩] (by kernel_rfl) ?_; show vcOpsD _ _ _ (_ :: _) _ _)
   simp(maxSteps:=9^9)only[↓VP,VQ,seval,vidx4_0,vidx4_1,vidx4_2,vidx4_3]
   (repeat' (first | intro _ | refine And.intro ?_ ?_ | ((refine ACall.pure (by with_reducible assumption) ?_; try simp(maxSteps:=9^9)only[↓VP,VQ,seval]); try simp(maxSteps:=9^9)only[↓VP,VQ,seval,GL]) | (refine VPure.of (by with_reducible assumption) ?_; try simp(maxSteps:=9^9)only[↓VP,VQ,seval,GL])))
   all_goals try first|omega|(simp only[LL];omega)|exact nlC (by decide) _|exact nbC rfl
  all_goals (first | (rw [e]; (repeat' split) <;> first | rfl | (exfalso; omega) | (exfalso; simp_all; done) | (exfalso; simp_all; omega)))
 ·have hof : offP 0 3 kind = true := by simp [offP]; omega
  rw [hof] at h1
  rw [if_pos hof] at e
  simp only [harbA,harbL,repA] at *
  (refine acall_intro (E := envC (modeAt [6,24,44,53] []) false []) (envCOk _ _ _) rfl Tryz.func101 rfl Tryz.call101 (by kernel_rfl) (by simp [Tryz.ntmps101]) ?_; simp only [Tryz.f101];  simp(maxSteps:=9^9)only[↓VP,VQ,seval])
  repeat'(first|intro _|apply And.intro)
  all_goals try first|omega|(simp only[LL];omega)|exact nlC (by decide) _|exact nbC rfl
  ((refine ACall.pure (h1) ?_; try simp(maxSteps:=9^9)only[↓VP,VQ,seval]); try simp(maxSteps:=9^9)only[↓VP,VQ,seval,GL])
  rw [e]
def hnamesFit (h : RHarb) : Prop := ∀ s ∈ h.ships,s.name.size ≤ 9223372036854775807
theorem checkH_first {h : RHarb} (h0 : (offP 1 4 h.ports || offP 0 3 h.lost) = true) : checkH h = (1,0,7) := by unfold checkH; rw [if_pos h0]
theorem check_c (h : RHarb) (hs : hnamesFit h) : PCall Tryz.prog 63 [harbA h] (.tuple [.int .i64 (checkH h).1,.int .i64 (checkH h).2.1,.int .i64 (checkH h).2.2]) := by
 have hc1 := offOne_c 1 4 h.ports
 have hc2 := offOne_c 0 3 h.lost
 intro m
 by_cases h0 : (offP 1 4 h.ports || offP 0 3 h.lost) = true
 ·rw [checkH_first h0]
  simp only [harbA,harbL]
  cases h1 : offP 1 4 h.ports
  ·cases h2 : offP 0 3 h.lost
   ·simp [h1,h2] at h0
   ·rw [h1] at hc1; rw [h2] at hc2
    (refine acall_intro (E := env fun _ => .imm) (envOk _) rfl Tryz.func63 rfl Tryz.call63 (by kernel_rfl) (by simp [Tryz.ntmps63]) ?_; simp only [Tryz.f63];  simp(maxSteps:=9^9)only[↓VP,VQ,seval])
    (refine ACall.pure (hc1) ?_; try simp(maxSteps:=9^9)only[↓VP,VQ,seval])
    (refine ACall.pure (hc2) ?_; try simp(maxSteps:=9^9)only[↓VP,VQ,seval])
  ·rw [h1] at hc1
   (refine acall_intro (E := env fun _ => .imm) (envOk _) rfl Tryz.func63 rfl Tryz.call63 (by kernel_rfl) (by simp [Tryz.ntmps63]) ?_; simp only [Tryz.f63];  simp(maxSteps:=9^9)only[↓VP,VQ,seval])
   (refine ACall.pure (hc1) ?_; try simp(maxSteps:=9^9)only[↓VP,VQ,seval])
 ·have h1 : offP 1 4 h.ports = false := by revert h0; cases offP 1 4 h.ports <;> simp
  have h2 : offP 0 3 h.lost = false := by revert h0; cases offP 0 3 h.lost <;> simp
  rw [h1] at hc1; rw [h2] at hc2
  have hp : portsFit h := by unfold portsFit; simp [offP] at h1; omega
  have hf1 := failingShip_c 94 [.eptr (harbL h)] h.ships (shipErr h.ports h.ships) fun i hi => check1_c h hp i h.ships[i] (by omega) (hs _ (List.getElem_mem hi))
  have hf2 := fun (q : ¬ 3 < h.ships.length) => failingLet_c 99 [.eptr (harbL h)] h.letters (fun _ => letErr h.ports h.ships) fun i hi => check2_c h hp (by omega) i h.letters[i]
  have hf3 := fun (q : ¬ 3 < h.ships.length) (q2 : ¬ 4 < h.letters.length) => failingRep_c 101 [.eptr (harbL h)] h.reports (fun _ => repErr h.ports h.ships.length h.letters.length) fun i hi => check3_c h hp (by omega) (by omega) i h.reports[i]
  have e : checkH h = if 3 < h.ships.length then (2,0,3)
    else if (shipsE h).2 ≠ 0 then (2,(shipsE h).1,(shipsE h).2)
    else if 4 < h.letters.length then (3,0,3)
    else if (lettersE h).2 ≠ 0 then (3,(lettersE h).1,(lettersE h).2)
    else if 5 < h.reports.length then (4,0,3)
    else if (reportsE h).2 ≠ 0 then (4,(reportsE h).1,(reportsE h).2)
    else (0,0,0) := by unfold checkH; rw [if_neg h0]
  change PCall _ _ _ (.tuple [.int .i64 (shipsE h).1,.int .i64 (shipsE h).2]) at hf1
  have hf2 : ¬ 3 < h.ships.length → PCall _ _ _ (.tuple [.int .i64 (lettersE h).1,.int .i64 (lettersE h).2]) := hf2
  have hf3 : ¬ 3 < h.ships.length → ¬ 4 < h.letters.length → PCall _ _ _ (.tuple [.int .i64 (reportsE h).1,.int .i64 (reportsE h).2]) := hf3
  generalize shipsE h = se at *
  generalize lettersE h = le at *
  generalize reportsE h = re at *
  generalize checkH h = W at *
  simp only [harbA,harbL] at *
  (refine acall_intro (E := env fun _ => .imm) (envOk _) rfl Tryz.func63 rfl Tryz.call63 (by kernel_rfl) (by simp [Tryz.ntmps63]) ?_; simp only [Tryz.f63];  simp(maxSteps:=9^9)only[↓VP,VQ,seval])
  (refine ACall.pure (hc1) ?_; try simp(maxSteps:=9^9)only[↓VP,VQ,seval])
  (refine ACall.pure (hc2) ?_; try simp(maxSteps:=9^9)only[↓VP,VQ,seval])
  repeat'(first|intro _|apply And.intro)
  ·rw [e,if_pos (by omega)]
  have h4 : ¬ 3 < h.ships.length := by omega
  rw [if_neg h4] at e
  (refine ACall.pure (hf1) ?_; try simp(maxSteps:=9^9)only[↓VP,VQ,seval])
  repeat'(first|intro _|apply And.intro)
  ·have h5 : se.2 ≠ 0 := by assumption
   rw [e,if_pos h5]
  ·have h5 : ¬ se.2 ≠ 0 := by assumption
   rw [e,if_neg h5,if_pos (by omega)]
  have h5 : ¬ se.2 ≠ 0 := by assumption
  have h6 : ¬ 4 < h.letters.length := by omega
  rw [if_neg h5,if_neg h6] at e
  (refine ACall.pure (hf2 h4) ?_; try simp(maxSteps:=9^9)only[↓VP,VQ,seval])
  repeat'(first|intro _|apply And.intro)
  ·have h7 : le.2 ≠ 0 := by assumption
   rw [e,if_pos h7]
  ·have h7 : ¬ le.2 ≠ 0 := by assumption
   rw [e,if_neg h7,if_pos (by omega)]
  have h7 : ¬ le.2 ≠ 0 := by assumption
  have h8 : ¬ 5 < h.reports.length := by omega
  rw [if_neg h7,if_neg h8] at e
  (refine ACall.pure (hf3 h4 h6) ?_; try simp(maxSteps:=9^9)only[↓VP,VQ,seval])
  repeat'(first|intro _|apply And.intro)
  ·have h9 : re.2 ≠ 0 := by assumption
   rw [e,if_pos h9]
  ·have h9 : ¬ re.2 ≠ 0 := by assumption
   rw [e,if_neg h9]
end Go.Proofs.YteppmjlfpniiaaaGreat.Abs
