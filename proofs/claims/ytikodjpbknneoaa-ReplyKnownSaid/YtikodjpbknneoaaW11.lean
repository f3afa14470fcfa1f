/- Lemmas for the statements of this seat (W11): they hold without conditions beyond those that each one states. -/
import Derived.Test.YtikodjpbknneoaaW8
import Derived.Test.YtikodjpbknneoaaW9
import Derived.Test.YtikodjpbknneoaaW10
import Derived.Test.YtikodjpbknneoaaW2
/- Laws: how ships fare,one after the other,in order. -/
namespace Go.Proofs.Ytikodjpbknneoaa.Abs
set_option linter.unusedSimpArgs false
open Go Go.RowKit Go.Proofs
def voyD : List RShip → Int → List (List Fate)
 | [],_ => [[]]
 | s :: r,left => (lateL s).flatMap fun late => (madeL s).flatMap fun made => if sinksI s made ≤ left then (voyD r (left - sinksI s made)).map fun g => Fate.mk late made :: g else []
def allD : List RShip → List (List Fate)
 | [] => [[]]
 | s :: r => (lateL s).flatMap fun late => (madeL s).flatMap fun made => (allD r).map fun g => Fate.mk late made :: g
theorem voyD_cons (s : RShip) (r : List RShip) (left : Int) : voyD (s :: r) left = (lateL s).flatMap fun late => (madeL s).flatMap fun made => if sinksI s made ≤ left then (voyD r (left - sinksI s made)).map fun g => Fate.mk late made :: g else [] := rfl
theorem allD_cons (s : RShip) (r : List RShip) : allD (s :: r) = (lateL s).flatMap fun late => (madeL s).flatMap fun made => (allD r).map fun g => Fate.mk late made :: g := rfl
theorem foldR_all : ∀ (r : List RShip) (out : List (List Fate)),r.foldl stepR out = out.flatMap fun f => (allD r).map fun g => f ++ g
 | [],out => by
  simp only [List.foldl_nil,allD,List.map_cons,List.map_nil,List.append_nil]
  induction out with
  | nil => rfl
  | cons x out ih => rw [List.flatMap_cons,← ih]; rfl
 | s :: r,out => by
  rw [List.foldl_cons,foldR_all r,allD_cons]
  unfold stepR
  simp only [List.flatMap_assoc,List.map_flatMap,List.flatMap_map,List.map_map]
  congr 1
  funext f
  congr 1
  funext late
  congr 1
  funext made
  congr 1
  funext g
  simp
theorem allR_D (l : List RShip) : allR l = allD l := by
 unfold allR
 rw [foldR_all]
 simp
theorem voy_filter : ∀ (l : List RShip) (left : Int),0 ≤ left → voyD l left = (allD l).filter fun f => decide (lostN l f ≤ left)
 | [],left,h => by simp [voyD,allD,lostN,h]
 | s :: r,left,h => by
  rw [voyD_cons,allD_cons]
  simp only [List.filter_flatMap,List.filter_map]
  congr 1
  funext late
  congr 1
  funext made
  by_cases q : sinksI s made ≤ left
  ·rw [if_pos q,voy_filter r _ (by omega)]
   congr 1
   refine List.filter_congr fun f _ => ?_
   have e : lostN (s :: r) (Fate.mk late made :: f) = sinksI s made + lostN r f := rfl
   show decide (lostN r f ≤ left - sinksI s made) = decide (lostN (s :: r) (Fate.mk late made :: f) ≤ left)
   rw [decide_eq_decide,e]
   omega
  ·rw [if_neg q,List.filter_eq_nil_iff.2,List.map_nil]
   intro f _
   have e : lostN (s :: r) (Fate.mk late made :: f) = sinksI s made + lostN r f := rfl
   show ¬ decide (lostN (s :: r) (Fate.mk late made :: f) ≤ left) = true
   rw [decide_eq_true_eq,e]
   have := lostN_nonneg r f
   omega
theorem voy_fleets (h : RHarb) (hh : HOk h) : voyD h.ships h.lost = fleetsR h.ships h.lost := by
 rw [voy_filter _ _ hh.l.1]
 unfold fleetsR
 rw [allR_D]
def madeV (p : List Fate) (s : RShip) (r : List RShip) (left late : Int) (q : Nat) : List (List Fate) :=
 (madesTo q).flatMap fun made => if sinksI s made ≤ left then (voyD r (left - sinksI s made)).map fun g => p ++ Fate.mk late made :: g else []
def lateV (p : List Fate) (s : RShip) (r : List RShip) (left : Int) (j : Nat) : List (List Fate) := (latesTo s j).flatMap fun late => madeV p s r left late (s.calls.length + 1)
theorem madeV_succ (p : List Fate) (s : RShip) (r : List RShip) (left late : Int) (q : Nat) : madeV p s r left late (q + 1) = madeV p s r left late q ++ if sinksI s q ≤ left then (voyD r (left - sinksI s q)).map fun g => p ++ Fate.mk late q :: g else [] := by
 unfold madeV
 rw [madesTo_succ,List.flatMap_append]
 simp
theorem lateV_succ (p : List Fate) (s : RShip) (r : List RShip) (left : Int) (j : Nat) : lateV p s r left (j + 1) = lateV p s r left j ++ madeV p s r left (s.lo + j) (s.calls.length + 1) := by
 unfold lateV
 rw [latesTo_succ,List.flatMap_append]
 simp
theorem lateV_all (p : List Fate) (s : RShip) (r : List RShip) (left : Int) : lateV p s r left (s.hi - s.lo + 1).toNat = (voyD (s :: r) left).map fun g => p ++ g := by
 rw [voyD_cons]
 unfold lateV madeV
 simp only [List.map_flatMap]
 show (lateL s).flatMap _ = _
 congr 1
 funext late
 show (madeL s).flatMap _ = _
 congr 1
 funext made
 split
 ·rw [List.map_map]; rfl
 ·rfl
theorem madeV_mono (p : List Fate) (s : RShip) (r : List RShip) (left late : Int) : ∀ {i j : Nat},i ≤ j → (madeV p s r left late i).length ≤ (madeV p s r left late j).length := by
 intro i j h
 induction h with
 | refl => exact Nat.le_refl _
 | step _ ih => rw [madeV_succ,List.length_append]; omega
theorem lateV_mono (p : List Fate) (s : RShip) (r : List RShip) (left : Int) : ∀ {i j : Nat},i ≤ j → (lateV p s r left i).length ≤ (lateV p s r left j).length := by
 intro i j h
 induction h with
 | refl => exact Nat.le_refl _
 | step _ ih => rw [lateV_succ,List.length_append]; omega
theorem voy_room {p : List Fate} {s : RShip} {r : List RShip} {left : Int} {j i N : Nat} (hj : j < N) (hi : i < s.calls.length + 1) (hle : sinksI s i ≤ left) :
  (lateV p s r left j).length + (madeV p s r left (s.lo + j) i).length + (voyD r (left - sinksI s i)).length ≤ (lateV p s r left N).length := by
 have h1 := lateV_mono p s r left (show j + 1 ≤ N by omega)
 rw [lateV_succ,List.length_append] at h1
 have h2 := madeV_mono p s r left (s.lo + j) (show i + 1 ≤ s.calls.length + 1 by omega)
 rw [madeV_succ,if_pos hle,List.length_append,List.length_map] at h2
 omega
set_option maxHeartbeats 4000000
set_option maxRecDepth 100000
def visD (d : Int) : Int := if d < 0 then 61 else d
def visL (h : RHarb) (t : RTru) (k : Nat) : List (Int × Int) := (t.by_[k]!).map fun s => (s,visD (dayR h t.fleet s.toNat (h.letters[k]!).port))
def fateF (h : RHarb) (t : RTru) : List (List (Int × Int)) := (List.range h.letters.length).map (visL h t)
def visA (x : Int × Int) : AV := .agg [.int .i64 x.1,.int .i64 x.2]
def visLA (l : List (Int × Int)) : AV := .slice 2 (l.map visA)
def fateFA (f : List (List (Int × Int))) : AV := .slice 1 (f.map visLA)
theorem fateF_length (h : RHarb) (t : RTru) : (fateF h t).length = h.letters.length := by unfold fateF; simp
theorem fateF_at (h : RHarb) (t : RTru) {k : Nat} (hk : k < h.letters.length) : (fateF h t)[k]! = visL h t k := by
 unfold fateF
 rw [getD_any (by simpa using hk)]
 simp
def canF (b : RBook) (f : List (List (Int × Int))) (a k : Nat) : Bool := fitsB b a k && (f[k]!).any fun v => decide (v.2 ≤ (b.answers[a]!).day - b.back)
theorem visD_le {d u : Int} (h : u < 61) : decide (visD d ≤ u) = untilB d u := by
 unfold visD untilB
 by_cases q : d < 0
 ·have h1 : ¬ (61 : Int) ≤ u := by omega
  have h2 : ¬ (0 : Int) ≤ d := by omega
  simp [q,h1,h2]
 ·have h2 : (0 : Int) ≤ d := by omega
  simp [q,h2]
theorem canF_R {b : RBook} (hb : BOk b) {t : RTru} {a k : Nat} (ha : a < b.answers.length) (hk : k < b.harb.letters.length) : canF b (fateF b.harb t) a k = canR b t a k := by
 have h1 := (hb.ans a ha).2.2
 have h2 := hb.back
 unfold canF canR soonB rowE
 rw [fateF_at _ _ hk]
 unfold visL
 rw [List.any_map,List.any_map]
 congr 2
 funext s
 exact visD_le (by omega)
def canBit (b : RBook) (f : List (List (Int × Int))) (i : Nat) : Bool := decide (i % 4 < b.harb.letters.length) && canF b f (i / 4) (i % 4)
def canS (b : RBook) (f : List (List (Int × Int))) : Nat := setOf (canBit b f) (4 * b.answers.length)
theorem canS_bit {b : RBook} (hb : BOk b) {f : List (List (Int × Int))} {a k : Nat} (ha : a < b.answers.length) (hk : k < b.harb.letters.length) : (canS b f).testBit (a * 4 + k) = canF b f a k := by
 have h4 := hb.h.nl
 unfold canS
 rw [setOf_bit,decide_eq_true (by omega),Bool.true_and]
 unfold canBit
 rw [show (a * 4 + k) % 4 = k by omega,show (a * 4 + k) / 4 = a by omega,decide_eq_true hk,Bool.true_and]
def freeK (s _nl : Nat) (p : List Int) (k : Nat) : Bool := !decide ((k : Int) ∈ p) && s.testBit (p.length * 4 + k)
def waysD (s nl : Nat) : Nat → List Int → List (List Int)
 | 0,p => [p]
 | r + 1,p => (((List.range nl).filter (freeK s nl p)).flatMap fun (k : Nat) => waysD s nl r (p ++ [(k : Int)])) ++ waysD s nl r (p ++ [-1])
def waysS (n nl s : Nat) : List (List Int) := waysD s nl n []
theorem waysD_cons (s nl r : Nat) (p : List Int) : waysD s nl (r + 1) p = (((List.range nl).filter (freeK s nl p)).flatMap fun (k : Nat) => waysD s nl r (p ++ [(k : Int)])) ++ waysD s nl r (p ++ [-1]) := rfl
def waysK (s nl r : Nat) (p : List Int) (n : Nat) : List (List Int) := ((List.range n).filter (freeK s nl p)).flatMap fun (k : Nat) => waysD s nl r (p ++ [(k : Int)])
theorem waysK_succ (s nl r : Nat) (p : List Int) (n : Nat) : waysK s nl r p (n + 1) = waysK s nl r p n ++ if freeK s nl p n = true then waysD s nl r (p ++ [(n : Int)]) else [] := by
 unfold waysK
 rw [List.range_succ,List.filter_append,List.flatMap_append,List.filter_cons]
 by_cases q : freeK s nl p n = true
 ·rw [if_pos q,if_pos q]; simp
 ·rw [if_neg q,if_neg q]; simp
theorem waysD_step {b : RBook} {t : RTru} {s : Nat} {p : List Int} (r : Nat) (hs : ∀ k,k < b.harb.letters.length → s.testBit (p.length * 4 + k) = canR b t p.length k) :
  waysD s b.harb.letters.length (r + 1) p = (extW b t p.length p).flatMap (waysD s b.harb.letters.length r) := by
 unfold extW
 rw [List.flatMap_append,List.flatMap_map,waysD_cons]
 simp only [List.flatMap_cons,List.flatMap_nil,List.append_nil]
 congr 1
 congr 1
 refine List.filter_congr fun k hk => ?_
 unfold freeK
 rw [hs k (List.mem_range.1 hk)]
theorem flatMap_congr' {α β : Type} {f g : α → List β} : ∀ {l : List α},(∀ x ∈ l,f x = g x) → l.flatMap f = l.flatMap g
 | [],_ => rfl
 | x :: l,h => by rw [List.flatMap_cons,List.flatMap_cons,h x (by simp),flatMap_congr' fun y hy => h y (List.mem_cons_of_mem _ hy)]
theorem waysD_to {b : RBook} {t : RTru} {s n : Nat} (hs : ∀ a k,a < n → k < b.harb.letters.length → s.testBit (a * 4 + k) = canR b t a k) :
  ∀ (r a : Nat),a + r = n → (waysTo b t a).flatMap (waysD s b.harb.letters.length r) = waysTo b t n
 | 0,a,e => by
  have : a = n := by omega
  subst this
  have e2 : waysD s b.harb.letters.length 0 = fun p => [p] := by funext p; rfl
  rw [e2]
  induction waysTo b t a with
  | nil => rfl
  | cons x l ih => rw [List.flatMap_cons,ih]; rfl
 | r + 1,a,e => by
  rw [← waysD_to hs r (a + 1) (by omega)]
  have : waysTo b t (a + 1) = (waysTo b t a).flatMap (extW b t a) := rfl
  rw [this,List.flatMap_assoc]
  refine flatMap_congr' fun p hp => ?_
  have hl := waysTo_mem hp
  have := waysD_step (b := b) (t := t) (s := s) (p := p) r (fun k hk => by rw [hl]; exact hs a k (by omega) hk)
  rw [this,hl]
theorem waysS_R {b : RBook} (hb : BOk b) (t : RTru) : waysS b.answers.length b.harb.letters.length (canS b (fateF b.harb t)) = waysR b t := by
 have := waysD_to (b := b) (t := t) (s := canS b (fateF b.harb t)) (n := b.answers.length) (fun a k ha hk => by rw [canS_bit hb ha hk,canF_R hb ha hk]) b.answers.length 0 (by omega)
 unfold waysR
 rw [← this]
 show waysS _ _ _ = ([[]] : List (List Int)).flatMap _
 simp [waysS]
def ownE (w : List Int) : List Int := (List.range 3).map fun i => (w[i]?).getD (-1) + 1
def ownA (w : List Int) : AV := .agg ((ownE w).map (AV.int .i64))
theorem ownE_length (w : List Int) : (ownE w).length = 3 := by simp [ownE]
theorem ownE_stray (p : List Int) : ownE (p ++ [-1]) = ownE p := by
 unfold ownE
 refine List.map_congr_left fun i _ => ?_
 congr 1
 by_cases q : i < p.length
 ·rw [List.getElem?_append_left q]
 ·rw [List.getElem?_append_right (by omega),List.getElem?_eq_none (by omega : p.length ≤ i)]
  generalize i - p.length = j
  cases j <;> rfl
theorem ownE_nil : ownE [] = [0,0,0] := rfl
theorem ownE_set (p : List Int) (x y : Int) : (ownE (p ++ [x])).set p.length (y + 1) = ownE (p ++ [y]) := by
 refine List.ext_getElem (by simp [ownE_length]) fun i h1 h2 => ?_
 simp only [ownE,List.getElem_set,List.getElem_map,List.getElem_range]
 by_cases q : p.length = i
 ·subst q; rw [if_pos rfl,List.getElem?_append_right (Nat.le_refl _),Nat.sub_self]; rfl
 ·rw [if_neg q]
  by_cases q2 : i < p.length
  ·rw [List.getElem?_append_left q2,List.getElem?_append_left q2]
  ·rw [List.getElem?_append_right (by omega),List.getElem?_append_right (by omega)]
   have : ∃ j,i - p.length = j + 1 := ⟨i - p.length - 1,by omega⟩
   obtain ⟨j,e⟩ := this
   rw [e]; rfl
theorem ownE_at {w : List Int} {i : Nat} (h : i < w.length) (h3 : w.length ≤ 3) : (ownE w)[i]! = w[i]! + 1 := by
 unfold ownE
 rw [getD_any (by simp; omega),List.getElem_map,List.getElem_range,List.getElem?_eq_getElem h,getD_any h]; rfl
theorem roff1_c (n lo hi : Int) : PCall Try.prog 47 [.int .i64 n,.eptr [.int .i64 lo],.eptr [.int .i64 hi]] (.bool (offP lo hi n)) := by
 intro m
 (refine acall_intro (E := env fun _ => .imm) (envOk _) rfl Try.func47 rfl Try.call47 (by kernel_rfl) (by simp [Try.ntmps47]) ?_; simp only [Try.f47];  simp(maxSteps:=9^9)only[↓VX,VQ,seval])
 repeat'(first|intro _|apply And.intro)
 all_goals simp_all [offP]
 all_goals omega
theorem roff_c (lo hi n : Int) : PCall Try.prog 36 [.int .i64 lo,.int .i64 hi,.slice 1 [.int .i64 n]] (.bool (offP lo hi n)) := by
 intro m
 have h := containsInt_c 47 [.eptr [.int .i64 lo],.eptr [.int .i64 hi]] [n] (offP lo hi) fun x _ => roff1_c x lo hi
 simp only [ints,List.map_cons,List.map_nil,List.any_cons,List.any_nil,Bool.or_false] at h
 (refine acall_intro (E := env fun _ => .imm) (envOk _) rfl Try.func36 rfl Try.call36 (by kernel_rfl) (by simp [Try.ntmps36]) ?_; simp only [Try.f36];  simp(maxSteps:=9^9)only[↓VX,VQ,seval])
 repeat'(first|intro _|apply And.intro)
 refine ACall.pure h ?_
 simp(maxSteps:=9^9)only[↓VX,VQ,seval]
 repeat'(first|intro _|apply And.intro)
theorem rsaid_c (r : RRep) (d : Int) : PCall Try.prog 52 [repA r,.int .i64 d] (.bool (soN r d)) := by
 intro m
 have e0 : soN r d = if r.kind = 0 ∨ r.kind = 2 then decide (d = r.day) else decide (r.day < d) := rfl
 simp only [repA]
 (refine acall_intro (E := env fun _ => .imm) (envOk _) rfl Try.func52 rfl Try.call52 (by kernel_rfl) (by simp [Try.ntmps52]) ?_; simp only [Try.f52];  simp(maxSteps:=9^9)only[↓VX,VQ,seval])
 repeat'(first|intro _|apply And.intro)
 all_goals simp_all
theorem call1_c (x : RCall) (p : Int) : PCall Try.prog 71 [callA x,.eptr [.int .i64 p]] (.bool (decide (x.port = p))) := by
 intro m
 simp only [callA]
 (refine acall_intro (E := env fun _ => .imm) (envOk _) rfl Try.func71 rfl Try.call71 (by kernel_rfl) (by simp [Try.ntmps71]) ?_; simp only [Try.f71];  simp(maxSteps:=9^9)only[↓VX,VQ,seval])
 repeat'(first|intro _|apply And.intro)
def callD (s : RShip) (late made port : Int) : Int := if atC s.calls port < 0 ∨ made ≤ atC s.calls port then 61 else s.sails + (s.calls[(atC s.calls port).toNat]!).after + late
theorem call_c (ports : Int) (s : RShip) (hs : SOk ports s) (late made port : Int) (hl : 0 ≤ late ∧ late ≤ 3) : PCall Try.prog 51 [shipA s,.agg [.int .i64 late,.int .i64 made],.int .i64 port] (.tuple [.int .i64 (callD s late made port),.bool (decide (0 ≤ atC s.calls port))]) := by
 intro m
 have h := indexCall_c 71 [.eptr [.int .i64 port]] s.calls (fun c => decide (c.port = port)) fun x _ => call1_c x port
 change PCall _ _ _ (.int .i64 (atC s.calls port)) at h
 have e0 : callD s late made port = if atC s.calls port < 0 ∨ made ≤ atC s.calls port then 61 else s.sails + (s.calls[(atC s.calls port).toNat]!).after + late := rfl
 have hc := idxL_cases (fun c : RCall => decide (c.port = port)) s.calls
 change atC s.calls port = -1 ∨ ∃ k,k < s.calls.length ∧ atC s.calls port = (k : Int) at hc
 have h1 := hs.sails
 have h2 := fun i q => (hs.call i q).2.1
 generalize atC s.calls port = A at *
 simp only [shipA,shipL] at *
 (refine acall_intro (E := env fun _ => .imm) (envOk _) rfl Try.func51 rfl Try.call51 (by kernel_rfl) (by simp [Try.ntmps51]) ?_; simp only [Try.f51];  simp(maxSteps:=9^9)only[↓VX,VQ,seval])
 ((refine ACall.pure (h) ?_; try simp(maxSteps:=9^9)only[↓VX,VQ,seval]); try simp(maxSteps:=9^9)only[↓VX,VQ,seval,GL])
 repeat'(first|intro _|apply And.intro)
 ·have q : A < 0 := by assumption
  rw [e0,if_pos (.inl q),decide_eq_false (by omega)]
 ·have q : ¬ A < 0 := by assumption
  have q2 : made ≤ A := by assumption
  rw [e0,if_pos (.inr q2),decide_eq_true (by omega)]
 ·have q : ¬ A < 0 := by assumption
  have q2 : ¬ made ≤ A := by assumption
  obtain ⟨k,hk,rfl⟩ := hc.resolve_left (by omega)
  have hk2 := h2 k hk
  rw [e0,if_neg (by omega),decide_eq_true (by omega)]
  (refine adraw (by first | exact envOk _ | exact envCOk _ _ _) mixed [⟨false,false,0⟩,⟨false,false,0⟩,⟨false,false,0⟩,⟨false,false,0⟩,⟨false,false,0⟩,⟨false,false,0⟩,⟨false,false,0⟩,⟨false,false,0⟩,⟨false,false,0⟩,⟨false,false,0⟩,⟨false,false,0⟩,⟨false,false,0⟩,⟨false,false,0⟩,⟨false,false,0⟩] (by kernel_rfl) ?_; show vcOpsD _ _ _ (_ :: _) _ _)
  simp(maxSteps:=9^9)only[↓VX,VQ,seval]
  repeat'(first|intro _|apply And.intro)
  all_goals try first|omega|(simp only[LL];omega)|exact nlC (by decide) _|exact nbC rfl
  all_goals trivial
theorem all_less {p : Nat → Bool} {k n : Nat} (hk : k ≤ n) (e : (List.range k).all p = false) : (List.range n).all p = false := by
 rw [List.all_eq_false] at e ⊢
 obtain ⟨i,hi,h⟩ := e
 exact ⟨i,List.mem_range.2 (Nat.lt_of_lt_of_le (List.mem_range.1 hi) hk),h⟩
def voyC (l : List Fate) : List AV := ((l.map fateA).map AV.cells).flatten
theorem voyC_at : ∀ (l : List Fate) (s : Nat),s < l.length → ∃ r,(voyC l).drop (s * 2) = .int .i64 (l[s]!).late :: .int .i64 (l[s]!).made :: r
 | [],_,h => by cases h
 | x :: l,0,_ => ⟨voyC l,rfl⟩
 | x :: l,s + 1,h => by
  obtain ⟨r,e⟩ := voyC_at l s (by simpa using h)
  refine ⟨r,?_⟩
  rw [show (s + 1) * 2 = s * 2 + 1 + 1 by omega]
  rw [show (x :: l)[s + 1]! = l[s]! from rfl]
  exact e
theorem voyC_length (l : List Fate) : (voyC l).length = l.length * 2 := by
 induction l with
 | nil => rfl
 | cons x l ih =>
  have : voyC (x :: l) = .int .i64 x.late :: .int .i64 x.made :: voyC l := rfl
  rw [this,List.length_cons,List.length_cons,List.length_cons,ih]; omega
theorem callD_N (h : RHarb) (x : List Fate) (s : Nat) (port : Int) : callD (h.ships[s]!) (x[s]!).late (x[s]!).made port = dayN h (fun i => x[i]!) s port := rfl
def bookC (b : RBook) (A F K : AV) (least : Int) : List AV := harbL b.harb ++ [ints b.words,.int .i64 b.back,A,F,K,.int .i64 least]
def visC (h : RHarb) (x : List Fate) (k n : Nat) : List (Int × Int) := ((List.range n).filter (canB h x k [])).map fun (s : Nat) => ((s : Int),visD (dayR h x s (h.letters[k]!).port))
theorem visC_succ (h : RHarb) (x : List Fate) (k n : Nat) : visC h x k (n + 1) = if canB h x k [] n = true then visC h x k n ++ [((n : Int),visD (dayR h x n (h.letters[k]!).port))] else visC h x k n := by
 unfold visC
 rw [List.range_succ,List.filter_append,List.map_append,List.filter_cons]
 by_cases q : canB h x k [] n = true
 ·rw [if_pos q,if_pos q]; rfl
 ·rw [if_neg q,if_neg q]; exact List.append_nil _
theorem visC_length (h : RHarb) (x : List Fate) (k n : Nat) : (visC h x k n).length = (couldL h x k [] n).length := by
 unfold visC couldL; rw [List.length_map,List.length_map]
theorem visC_le (h : RHarb) (x : List Fate) (k n : Nat) : (visC h x k n).length ≤ n := by
 rw [visC_length]; exact couldL_length _ _ _ _ _
theorem visC_L (h : RHarb) (x : List Fate) {k : Nat} (hk : k < h.letters.length) : visL h (truOf h [] x) k = visC h x k h.ships.length := by
 have e : (truOf h [] x).by_[k]! = couldL h x k [] h.ships.length := byTo_at h x [] hk
 unfold visL
 rw [e]
 unfold visC couldL
 rw [List.map_map]
 refine List.map_congr_left fun s _ => ?_
 simp only [Function.comp,Int.toNat_natCast]
 rfl
def fatC (h : RHarb) (x : List Fate) (i : Nat) : List (List (Int × Int)) := (List.range i).map fun k => visC h x k h.ships.length
theorem fatC_length (h : RHarb) (x : List Fate) (i : Nat) : (fatC h x i).length = i := by simp [fatC]
theorem fatC_succ (h : RHarb) (x : List Fate) (i : Nat) : fatC h x (i + 1) = fatC h x i ++ [visC h x i h.ships.length] := by
 unfold fatC; rw [List.range_succ,List.map_append]; rfl
theorem fatC_F (h : RHarb) (x : List Fate) : fatC h x h.letters.length = fateF h (truOf h [] x) := by
 unfold fatC fateF
 exact List.map_congr_left fun k hk => (visC_L h x (List.mem_range.1 hk)).symm
theorem ixVis (l : List (Int × Int)) (i : Int) (K : AV → Prop) : VIdx (l.map visA) i K ↔ (0 ≤ i ∧ i.toNat < l.length) ∧ K (.agg [.int .i64 (l[i.toNat]!).1,.int .i64 (l[i.toNat]!).2]) := VIdx_map visA l i K
theorem ixVisL (l : List (List (Int × Int))) (i : Int) (K : AV → Prop) : VIdx (l.map visLA) i K ↔ (0 ≤ i ∧ i.toNat < l.length) ∧ K (.slice 2 ((l[i.toNat]!).map visA)) := VIdx_map visLA l i K
def fateR (h : RHarb) (x : List Fate) : AV := if trueB h [] x = true then .tuple [fateFA (fateF h (truOf h [] x)),.bool true] else .tuple [.slice 1 [],.bool false]
theorem fate_c (b : RBook) (hh : HOk b.harb) (A F K : AV) (least : Int) (bk lb : Nat) (x : List Fate) (hx : FOk b.harb x) (m : Mem) (hbk : m bk = some (.cells (bookC b A F K least))) (hlb : m lb = some (.cells (voyC x))) :
  ACall Try.prog 42 [.ptr bk 0,.mslice lb 0 b.harb.ships.length b.harb.ships.length] m fun r m' => r = fateR b.harb x ∧ m' = m := by
 have h3 := hh.n
 have hnl := hh.nl
 have hnr := hh.nr
 have hxn := hx.n
 have hrp := hh.report
 have hcl := fun (s : Nat) (q : s < b.harb.ships.length) (port : Int) => call_c b.harb.ports (b.harb.ships[s]!) (hh.ship s q) (x[s]!).late (x[s]!).made port (hx.late s (by omega))
 have hsd := rsaid_c
 have hvc := fun (s : Nat) (q : s < b.harb.ships.length) => voyC_at x s (by omega)
 have hdn := fun (s : Nat) (q : s < b.harb.ships.length) (port : Int) => dayN_R hh hx q port
 have hdr := fun (s : Nat) (q : s < b.harb.ships.length) (port : Int) => dayR_le hh hx q port
 have hso := fun (r : RRep) (q : 0 ≤ r.day ∧ r.day ≤ 60) (d : Int) (q2 : -1 ≤ d ∧ d ≤ 43) => so_eq q q2
 have hno : ∀ k,k ≤ b.harb.reports.length → saidB b.harb x [] k = false → fateR b.harb x = .tuple [.slice 1 [],.bool false] := fun k hk e => by
  have : trueB b.harb [] x = false := by
   unfold trueB
   rw [show saidB b.harb x [] b.harb.reports.length = false from all_less hk e,Bool.false_and]
  unfold fateR; rw [this]; rfl
 have hno2 : ∀ k,k ≤ b.harb.letters.length → goB b.harb x [] k = false → fateR b.harb x = .tuple [.slice 1 [],.bool false] := fun k hk e => by
  have : trueB b.harb [] x = false := by
   unfold trueB
   rw [show goB b.harb x [] b.harb.letters.length = false from all_less hk e,Bool.and_false]
  unfold fateR; rw [this]; rfl
 have hyes : saidB b.harb x [] b.harb.reports.length = true → goB b.harb x [] b.harb.letters.length = true → fateR b.harb x = .tuple [fateFA (fatC b.harb x b.harb.letters.length),.bool true] := fun e1 e2 => by
  unfold fateR trueB
  rw [e1,e2,fatC_F]; rfl
 have hss := saidB_succ b.harb x []
 have hgs := goB_succ b.harb x []
 have hfs := fatC_succ b.harb x
 have hvs := visC_succ b.harb x
 have hvl := visC_length b.harb x
 have hvle := visC_le b.harb x
 generalize fateR b.harb x = RES at *
 simp only [bookC,harbL,List.cons_append,List.nil_append,shipA,shipL,repA] at *
 (refine acall_intro (E := envC (modeAt [6,8,12,15,19] []) false []) (envCOk _ _ _) rfl Try.func42 rfl Try.call42 (by kernel_rfl) (by simp [Try.ntmps42]) ?_; simp only [Try.f42];  simp(maxSteps:=9^9)only[↓VX,VQ,seval,hbk])
 repeat'(first|intro _|apply And.intro)
 all_goals try first|omega|(simp only[LL];omega)|exact nlC (by decide) _|exact nbC rfl
 refine aloop (envCOk _ _ _) (fun k : Nat => ⟨[(0,.v (.ptr bk 0)),(1,.v (.mslice lb 0 b.harb.ships.length b.harb.ships.length)),(4,.v (.slice 1 [])),(6,.loc 6 0),(26,.v (.slice 4 (b.harb.reports.map repA))),(27,.v (.int .i64 b.harb.reports.length)),(28,.v (.int .i64 k))],[4],
   [(6,[.int .i64 b.harb.ports,.int .i64 b.harb.lost,.slice 5 (b.harb.ships.map shipA),.slice 3 (b.harb.letters.map letA),.slice 4 (b.harb.reports.map repA)])],m⟩)
  (fun k => k ≤ b.harb.reports.length ∧ saidB b.harb x [] k = true) (fun k => b.harb.reports.length - k) 0 (fun _ => rfl) ⟨by omega,rfl⟩ (by (simp only [FE,↓FP,seval]); try simp [overlay]) ?_
 rintro k ⟨hk,hsk⟩
 have hss1 := hss k
 have hrp1 := fun (q : k < b.harb.reports.length) => hrp k q
 simp(maxSteps:=9^9)only[↓VX,VQ,seval]
 repeat'(first|intro _|apply And.intro)
 all_goals try first|omega|(simp only[LL];omega)|exact nlC (by decide) _|exact nbC rfl
 ·have hkl : k < b.harb.reports.length := by omega
  have hq : (b.harb.reports[k]!).kind < 2 := by omega
  have hr := hrp1 hkl
  have hof := hr.2.1
  rw [if_pos hq] at hof
  have hon : ((b.harb.reports[k]!).of_.toNat : Int) = (b.harb.reports[k]!).of_ := Int.toNat_of_nonneg hof.1
  have hol : (b.harb.reports[k]!).of_.toNat < b.harb.ships.length := by omega
  obtain ⟨rr,hvr⟩ := hvc _ hol
  have hc1 := hcl _ hol (b.harb.reports[k]!).port
  have hd1 := hdn _ hol (b.harb.reports[k]!).port
  have hd2 := hdr _ hol (b.harb.reports[k]!).port
  have hs1 := hso (b.harb.reports[k]!) hr.2.2.2 _ hd2
  rw [callD_N,hd1] at hc1
  rw [show ofS b.harb [] k = true by unfold ofS; rw [decide_eq_true hq]; simp,Bool.not_true,Bool.false_or,← hs1,hsk,Bool.true_and] at hss1
  have hsd1 := hsd (b.harb.reports[k]!) (if dayR b.harb x (b.harb.reports[k]!).of_.toNat (b.harb.reports[k]!).port < 0 then 61 else dayR b.harb x (b.harb.reports[k]!).of_.toNat (b.harb.reports[k]!).port)
  have hno1 := hno (k + 1) (by omega)
  rw [hss1] at hno1
  generalize (if dayR b.harb x (b.harb.reports[k]!).of_.toNat (b.harb.reports[k]!).port < 0 then 61 else dayR b.harb x (b.harb.reports[k]!).of_.toNat (b.harb.reports[k]!).port) = D at *
  generalize decide (0 ≤ atC (b.harb.ships[(b.harb.reports[k]!).of_.toNat]!).calls (b.harb.reports[k]!).port) = GO at *
  (refine adraw (by first | exact envOk _ | exact envCOk _ _ _) mixed [⟨false,false,0⟩,⟨false,false,0⟩,⟨false,false,0⟩,⟨false,false,0⟩,⟨false,false,0⟩,⟨false,false,0⟩,⟨false,false,0⟩,⟨false,false,0⟩,⟨false,false,0⟩,⟨false,false,0⟩,⟨false,false,0⟩,⟨false,false,0⟩,⟨false,false,0⟩,⟨false,false,0⟩,⟨false,false,0⟩,⟨false,false,0⟩,⟨false,false,0⟩,⟨false,false,0⟩,⟨false,false,0⟩] (by kernel_rfl) ?_; show vcOpsD _ _ _ (_ :: _) _ _)
  simp(maxSteps:=9^9)only[↓VX,VQ,seval,hlb,hvr]
  repeat'(first|intro _|apply And.intro)
  all_goals try first|omega|(simp only[LL];omega)|exact nlC (by decide) _|exact nbC rfl
  refine VPure.of hc1 ?_
  cases hS : soN (b.harb.reports[k]!) D
  ·rw [hS] at hsd1 hno1
   simp(maxSteps:=9^9)only[↓VX,VQ,seval]
   repeat'(first|intro _|apply And.intro)
   all_goals try first|omega|(simp only[LL];omega)|exact nlC (by decide) _|exact nbC rfl
   ((refine ACall.pure (hsd1) ?_; try simp(maxSteps:=9^9)only[↓VX,VQ,seval]); try simp(maxSteps:=9^9)only[↓VX,VQ,seval,GL])
   rw [hno1 rfl]
  ·rw [hS] at hsd1 hss1
   simp(maxSteps:=9^9)only[↓VX,VQ,seval]
   repeat'(first|intro _|apply And.intro)
   all_goals try first|omega|(simp only[LL];omega)|exact nlC (by decide) _|exact nbC rfl
   ((refine ACall.pure (hsd1) ?_; try simp(maxSteps:=9^9)only[↓VX,VQ,seval]); try simp(maxSteps:=9^9)only[↓VX,VQ,seval,GL])
   repeat'(first|intro _|apply And.intro)
   all_goals try first|omega|(simp only[LL];omega)|exact nlC (by decide) _|exact nbC rfl
   refine ⟨k + 1,⟨by omega,hss1⟩,by dsimp only; omega,?_⟩
   (simp only [FE,↓FP,seval])
   try simp
 ·have hkl : k < b.harb.reports.length := by omega
  have hq : ¬ (b.harb.reports[k]!).kind < 2 := by have := (hrp1 hkl).1; omega
  rw [show ofS b.harb [] k = false by unfold ofS; rw [decide_eq_false hq]; rfl,hsk] at hss1
  refine ⟨k + 1,⟨by omega,hss1⟩,by dsimp only; omega,?_⟩
  (simp only [FE,↓FP,seval])
  try simp
 ·have hkl : k < b.harb.reports.length := by omega
  have hq : (b.harb.reports[k]!).kind < 2 := by omega
  have hr := hrp1 hkl
  have hof := hr.2.1
  rw [if_pos hq] at hof
  have hon : ((b.harb.reports[k]!).of_.toNat : Int) = (b.harb.reports[k]!).of_ := Int.toNat_of_nonneg hof.1
  have hol : (b.harb.reports[k]!).of_.toNat < b.harb.ships.length := by omega
  obtain ⟨rr,hvr⟩ := hvc _ hol
  have hc1 := hcl _ hol (b.harb.reports[k]!).port
  have hd1 := hdn _ hol (b.harb.reports[k]!).port
  have hd2 := hdr _ hol (b.harb.reports[k]!).port
  have hs1 := hso (b.harb.reports[k]!) hr.2.2.2 _ hd2
  rw [callD_N,hd1] at hc1
  rw [show ofS b.harb [] k = true by unfold ofS; rw [decide_eq_true hq]; simp,Bool.not_true,Bool.false_or,← hs1,hsk,Bool.true_and] at hss1
  have hsd1 := hsd (b.harb.reports[k]!) (if dayR b.harb x (b.harb.reports[k]!).of_.toNat (b.harb.reports[k]!).port < 0 then 61 else dayR b.harb x (b.harb.reports[k]!).of_.toNat (b.harb.reports[k]!).port)
  have hno1 := hno (k + 1) (by omega)
  rw [hss1] at hno1
  generalize (if dayR b.harb x (b.harb.reports[k]!).of_.toNat (b.harb.reports[k]!).port < 0 then 61 else dayR b.harb x (b.harb.reports[k]!).of_.toNat (b.harb.reports[k]!).port) = D at *
  generalize decide (0 ≤ atC (b.harb.ships[(b.harb.reports[k]!).of_.toNat]!).calls (b.harb.reports[k]!).port) = GO at *
  (refine adraw (by first | exact envOk _ | exact envCOk _ _ _) mixed [⟨false,false,0⟩,⟨false,false,0⟩,⟨false,false,0⟩,⟨false,false,0⟩,⟨false,false,0⟩,⟨false,false,0⟩,⟨false,false,0⟩,⟨false,false,0⟩,⟨false,false,0⟩,⟨false,false,0⟩,⟨false,false,0⟩,⟨false,false,0⟩,⟨false,false,0⟩,⟨false,false,0⟩,⟨false,false,0⟩,⟨false,false,0⟩,⟨false,false,0⟩,⟨false,false,0⟩,⟨false,false,0⟩] (by kernel_rfl) ?_; show vcOpsD _ _ _ (_ :: _) _ _)
  simp(maxSteps:=9^9)only[↓VX,VQ,seval,hlb,hvr]
  repeat'(first|intro _|apply And.intro)
  all_goals try first|omega|(simp only[LL];omega)|exact nlC (by decide) _|exact nbC rfl
  refine VPure.of hc1 ?_
  cases hS : soN (b.harb.reports[k]!) D
  ·rw [hS] at hsd1 hno1
   simp(maxSteps:=9^9)only[↓VX,VQ,seval]
   repeat'(first|intro _|apply And.intro)
   all_goals try first|omega|(simp only[LL];omega)|exact nlC (by decide) _|exact nbC rfl
   ((refine ACall.pure (hsd1) ?_; try simp(maxSteps:=9^9)only[↓VX,VQ,seval]); try simp(maxSteps:=9^9)only[↓VX,VQ,seval,GL])
   rw [hno1 rfl]
  ·rw [hS] at hsd1 hss1
   simp(maxSteps:=9^9)only[↓VX,VQ,seval]
   repeat'(first|intro _|apply And.intro)
   all_goals try first|omega|(simp only[LL];omega)|exact nlC (by decide) _|exact nbC rfl
   ((refine ACall.pure (hsd1) ?_; try simp(maxSteps:=9^9)only[↓VX,VQ,seval]); try simp(maxSteps:=9^9)only[↓VX,VQ,seval,GL])
   repeat'(first|intro _|apply And.intro)
   all_goals try first|omega|(simp only[LL];omega)|exact nlC (by decide) _|exact nbC rfl
   refine ⟨k + 1,⟨by omega,hss1⟩,by dsimp only; omega,?_⟩
   (simp only [FE,↓FP,seval])
   try simp
 ·have hke : k = b.harb.reports.length := by omega
  subst hke
  have hy1 := hyes hsk
  refine aloop (envCOk _ _ _) (fun k : Nat => ⟨[(0,.v (.ptr bk 0)),(1,.v (.mslice lb 0 b.harb.ships.length b.harb.ships.length)),(4,.v (.slice 1 ((fatC b.harb x k).map visLA))),(6,.loc 6 0),(63,.v (.slice 3 (b.harb.letters.map letA))),(64,.v (.int .i64 b.harb.letters.length)),(65,.v (.int .i64 k))],[4],
    [(6,[.int .i64 b.harb.ports,.int .i64 b.harb.lost,.slice 5 (b.harb.ships.map shipA),.slice 3 (b.harb.letters.map letA),.slice 4 (b.harb.reports.map repA)])],m⟩)
   (fun k => k ≤ b.harb.letters.length ∧ goB b.harb x [] k = true) (fun k => b.harb.letters.length - k) 0 (fun _ => rfl) ⟨by omega,rfl⟩ (by (simp only [FE,↓FP,seval]); try simp [fatC]) ?_
  rintro k ⟨hk,hgk⟩
  have hgs1 := hgs k
  have hfs1 := hfs k
  have hvs1 := hvs k
  have hvl1 := hvl k
  have hvle1 := hvle k
  have hno3 := hno2 (k + 1)
  rw [hgk,Bool.true_and] at hgs1
  simp(maxSteps:=9^9)only[↓VX,VQ,seval]
  repeat'(first|intro _|apply And.intro)
  all_goals try first|omega|(simp only[LL];omega)|exact nlC (by decide) _|exact nbC rfl
  ·have hkl : k < b.harb.letters.length := by omega
   have hno4 := hno3 (by omega)
   refine aloop (envCOk _ _ _) (fun s : Nat => ⟨[(0,.v (.ptr bk 0)),(1,.v (.mslice lb 0 b.harb.ships.length b.harb.ships.length)),(4,.v (.slice 1 ((fatC b.harb x k).map visLA))),(6,.loc 6 0),(11,.v (.int .i64 k)),(12,.loc 12 0),(13,.v (.slice 2 ((visC b.harb x k s).map visA))),(63,.v (.slice 3 (b.harb.letters.map letA))),(64,.v (.int .i64 b.harb.letters.length)),(65,.v (.int .i64 k)),
     (71,.v (.slice 5 (b.harb.ships.map shipA))),(72,.v (.int .i64 b.harb.ships.length)),(73,.v (.int .i64 s))],[4,13],
     [(6,[.int .i64 b.harb.ports,.int .i64 b.harb.lost,.slice 5 (b.harb.ships.map shipA),.slice 3 (b.harb.letters.map letA),.slice 4 (b.harb.reports.map repA)]),(12,[.int .i64 (b.harb.letters[k]!).port,.int .i64 (b.harb.letters[k]!).day,.int .i64 (b.harb.letters[k]!).ship])],m⟩)
    (fun s => s ≤ b.harb.ships.length) (fun s => b.harb.ships.length - s) 0 (fun _ => rfl) (by omega) (by (simp only [FE,↓FP,seval]); try simp [visC,overlay]) ?_
   intro s hs
   have hvs2 := hvs1 s
   have hvle2 := hvle1 s
   have hcb : canB b.harb x k [] s = (shipB b.harb k s && repsB b.harb x k [] s b.harb.reports.length) := rfl
   have hsb : shipB b.harb k s = ((decide ((b.harb.letters[k]!).day ≤ (b.harb.ships[s]!).sails) && decide (0 ≤ atC (b.harb.ships[s]!).calls (b.harb.letters[k]!).port)) && (decide ((b.harb.letters[k]!).ship = -1) || decide ((b.harb.letters[k]!).ship = (s : Int)))) := rfl
   simp(maxSteps:=9^9)only[↓VX,VQ,seval]
   repeat'(first|intro _|apply And.intro)
   all_goals try first|omega|(simp only[LL];omega)|exact nlC (by decide) _|exact nbC rfl
   ·have hsl : s < b.harb.ships.length := by omega
    obtain ⟨rr,hvr⟩ := hvc s hsl
    have hc1 := hcl s hsl (b.harb.letters[k]!).port
    have hd1 := hdn s hsl (b.harb.letters[k]!).port
    have hd2 := hdr s hsl (b.harb.letters[k]!).port
    rw [callD_N,hd1] at hc1
    have hvd : visD (dayR b.harb x s (b.harb.letters[k]!).port) = if dayR b.harb x s (b.harb.letters[k]!).port < 0 then 61 else dayR b.harb x s (b.harb.letters[k]!).port := rfl
    rw [← hvd] at hc1
    generalize hDD : dayR b.harb x s (b.harb.letters[k]!).port = dd at *
    generalize visD dd = D at *
    (refine adraw (by first | exact envOk _ | exact envCOk _ _ _) mixed [⟨false,false,0⟩,⟨false,false,0⟩,⟨false,false,0⟩,⟨false,false,0⟩,⟨false,false,0⟩,⟨false,false,0⟩,⟨false,false,0⟩,⟨false,false,0⟩,⟨false,false,0⟩,⟨false,false,0⟩,⟨false,false,0⟩,⟨false,false,0⟩,⟨false,false,0⟩] (by kernel_rfl) ?_; show vcOpsD _ _ _ (_ :: _) _ _)
    simp(maxSteps:=9^9)only[↓VX,VQ,seval,hlb,hvr]
    repeat'(first|intro _|apply And.intro)
    all_goals try first|omega|(simp only[LL];omega)|exact nlC (by decide) _|exact nbC rfl
    refine VPure.of hc1 ?_
    simp(maxSteps:=9^9)only[↓VX,VQ,seval]
    repeat'(first|intro _|apply And.intro)
    all_goals try first|omega|(simp only[LL];omega)|exact nlC (by decide) _|exact nbC rfl
    ·rw [show canB b.harb x k [] s = false by rw [hcb,hsb,decide_eq_false (show ¬ (b.harb.letters[k]!).ship = -1 by assumption),decide_eq_false (show ¬ (b.harb.letters[k]!).ship = (s : Int) by assumption)]; simp] at hvs2
     (refine ⟨s + 1,by first | omega | (dsimp only; omega),by dsimp only; omega,?_⟩; (simp only [FE,↓FP,seval]); try simp [hvs2])
    ·have hsb2 : shipB b.harb k s = true := by
      rw [hsb,decide_eq_true (show (b.harb.letters[k]!).day ≤ (b.harb.ships[s]!).sails by omega),decide_eq_true (show 0 ≤ atC (b.harb.ships[s]!).calls (b.harb.letters[k]!).port by omega),Bool.and_self,Bool.true_and,Bool.or_eq_true,decide_eq_true_eq,decide_eq_true_eq]
      omega
     rw [hsb2,Bool.true_and] at hcb
     have hfalse : ∀ j,j ≤ b.harb.reports.length → repsB b.harb x k [] s j = false → visC b.harb x k (s + 1) = visC b.harb x k s := fun j hj e => by
      rw [hvs2,if_neg]
      rw [hcb,show repsB b.harb x k [] s b.harb.reports.length = false from all_less hj e]
      decide
     have hrs := repsB_succ b.harb x k [] s
     refine aloop (envCOk _ _ _) (fun j : Nat => ⟨[(0,.v (.ptr bk 0)),(1,.v (.mslice lb 0 b.harb.ships.length b.harb.ships.length)),(4,.v (.slice 1 ((fatC b.harb x k).map visLA))),(6,.loc 6 0),(11,.v (.int .i64 k)),(12,.loc 12 0),(13,.v (.slice 2 ((visC b.harb x k s).map visA))),(63,.v (.slice 3 (b.harb.letters.map letA))),(64,.v (.int .i64 b.harb.letters.length)),(65,.v (.int .i64 k)),
       (71,.v (.slice 5 (b.harb.ships.map shipA))),(72,.v (.int .i64 b.harb.ships.length)),(73,.v (.int .i64 s)),(14,.v (.int .i64 s)),(16,.v (.int .i64 D)),(110,.v (.slice 4 (b.harb.reports.map repA))),(111,.v (.int .i64 b.harb.reports.length)),(112,.v (.int .i64 j))],[4,13],
       [(6,[.int .i64 b.harb.ports,.int .i64 b.harb.lost,.slice 5 (b.harb.ships.map shipA),.slice 3 (b.harb.letters.map letA),.slice 4 (b.harb.reports.map repA)]),(12,[.int .i64 (b.harb.letters[k]!).port,.int .i64 (b.harb.letters[k]!).day,.int .i64 (b.harb.letters[k]!).ship])],m⟩)
      (fun j => j ≤ b.harb.reports.length ∧ repsB b.harb x k [] s j = true) (fun j => b.harb.reports.length - j) 0 (fun _ => rfl) ⟨by omega,rfl⟩ (by (simp only [FE,↓FP,seval]); try simp) ?_
     rintro j ⟨hj,hsj⟩
     have hrs1 := hrs j
     have hrp2 := fun q : j < b.harb.reports.length => hrp j q
     have hob : ofB b.harb k [] j = (decide (2 ≤ (b.harb.reports[j]!).kind) && (decide ((b.harb.reports[j]!).of_ = (k : Int)) && decide ((j : Int) ∉ ([] : List Int)))) := rfl
     have hsd1 := hsd (b.harb.reports[j]!) D
     have hfa1 := hfalse (j + 1)
     rw [hsj,Bool.true_and] at hrs1
     by_cases hjl : j < b.harb.reports.length
     ·have hr := hrp2 hjl
      have hs1 := hso (b.harb.reports[j]!) hr.2.2.2 _ hd2
      rw [← hvd] at hs1
      rw [hDD,← hs1] at hrs1
      have hfa2 := hfa1 (by omega)
      by_cases hq : 2 ≤ (b.harb.reports[j]!).kind ∧ (b.harb.reports[j]!).of_ = (k : Int)
      ·rw [show ofB b.harb k [] j = true by rw [hob,decide_eq_true hq.1,decide_eq_true hq.2]; simp,Bool.not_true,Bool.false_or] at hrs1
       cases hS : soN (b.harb.reports[j]!) D
       ·rw [hS] at hsd1 hrs1
        have hfa3 := hfa2 hrs1
        simp(maxSteps:=9^9)only[↓VX,VQ,seval]
        repeat'(first|intro _|apply And.intro)
        all_goals try first|omega|(simp only[LL];omega)|exact nlC (by decide) _|exact nbC rfl
        all_goals try (exfalso; omega)
        all_goals
         ((refine ACall.pure (hsd1) ?_; try simp(maxSteps:=9^9)only[↓VX,VQ,seval]); try simp(maxSteps:=9^9)only[↓VX,VQ,seval,GL])
         repeat'(first|intro _|apply And.intro)
         all_goals try first|omega|(simp only[LL];omega)|exact nlC (by decide) _|exact nbC rfl
         (refine ⟨s + 1,by first | omega | (dsimp only; omega),by dsimp only; omega,?_⟩; (simp only [FE,↓FP,seval]); try simp [hfa3])
       ·rw [hS] at hsd1 hrs1
        simp(maxSteps:=9^9)only[↓VX,VQ,seval]
        repeat'(first|intro _|apply And.intro)
        all_goals try first|omega|(simp only[LL];omega)|exact nlC (by decide) _|exact nbC rfl
        all_goals try (exfalso; omega)
        all_goals
         ((refine ACall.pure (hsd1) ?_; try simp(maxSteps:=9^9)only[↓VX,VQ,seval]); try simp(maxSteps:=9^9)only[↓VX,VQ,seval,GL])
         repeat'(first|intro _|apply And.intro)
         all_goals try first|omega|(simp only[LL];omega)|exact nlC (by decide) _|exact nbC rfl
         refine ⟨j + 1,⟨by omega,hrs1⟩,by dsimp only; omega,?_⟩
         (simp only [FE,↓FP,seval])
         try simp
      ·rw [show ofB b.harb k [] j = false by
        rw [hob]
        by_cases q1 : 2 ≤ (b.harb.reports[j]!).kind
        ·rw [decide_eq_false (fun w => hq ⟨q1,w⟩)]; simp
        ·rw [decide_eq_false q1]; rfl,Bool.not_false,Bool.true_or] at hrs1
       simp(maxSteps:=9^9)only[↓VX,VQ,seval]
       repeat'(first|intro _|apply And.intro)
       all_goals try first|omega|(simp only[LL];omega)|exact nlC (by decide) _|exact nbC rfl
       all_goals try (exfalso; omega)
       all_goals
        refine ⟨j + 1,⟨by omega,hrs1⟩,by dsimp only; omega,?_⟩
        (simp only [FE,↓FP,seval])
        try simp
     ·have hje : j = b.harb.reports.length := by omega
      subst hje
      rw [hsj] at hcb
      rw [if_pos hcb] at hvs2
      simp(maxSteps:=9^9)only[↓VX,VQ,seval,buildV]
      repeat'(first|intro _|apply And.intro)
      all_goals try first|omega|(simp only[LL];omega)|exact nlC (by decide) _|exact nbC rfl
      all_goals skip
      (refine ⟨s + 1,by first | omega | (dsimp only; omega),by dsimp only; omega,?_⟩; (simp only [FE,↓FP,seval]); try simp [hvs2,visA])
    ·have hsb2 : shipB b.harb k s = true := by
      rw [hsb,decide_eq_true (show (b.harb.letters[k]!).day ≤ (b.harb.ships[s]!).sails by omega),decide_eq_true (show 0 ≤ atC (b.harb.ships[s]!).calls (b.harb.letters[k]!).port by omega),Bool.and_self,Bool.true_and,Bool.or_eq_true,decide_eq_true_eq,decide_eq_true_eq]
      omega
     rw [hsb2,Bool.true_and] at hcb
     have hfalse : ∀ j,j ≤ b.harb.reports.length → repsB b.harb x k [] s j = false → visC b.harb x k (s + 1) = visC b.harb x k s := fun j hj e => by
      rw [hvs2,if_neg]
      rw [hcb,show repsB b.harb x k [] s b.harb.reports.length = false from all_less hj e]
      decide
     have hrs := repsB_succ b.harb x k [] s
     refine aloop (envCOk _ _ _) (fun j : Nat => ⟨[(0,.v (.ptr bk 0)),(1,.v (.mslice lb 0 b.harb.ships.length b.harb.ships.length)),(4,.v (.slice 1 ((fatC b.harb x k).map visLA))),(6,.loc 6 0),(11,.v (.int .i64 k)),(12,.loc 12 0),(13,.v (.slice 2 ((visC b.harb x k s).map visA))),(63,.v (.slice 3 (b.harb.letters.map letA))),(64,.v (.int .i64 b.harb.letters.length)),(65,.v (.int .i64 k)),
       (71,.v (.slice 5 (b.harb.ships.map shipA))),(72,.v (.int .i64 b.harb.ships.length)),(73,.v (.int .i64 s)),(14,.v (.int .i64 s)),(16,.v (.int .i64 D)),(110,.v (.slice 4 (b.harb.reports.map repA))),(111,.v (.int .i64 b.harb.reports.length)),(112,.v (.int .i64 j))],[4,13],
       [(6,[.int .i64 b.harb.ports,.int .i64 b.harb.lost,.slice 5 (b.harb.ships.map shipA),.slice 3 (b.harb.letters.map letA),.slice 4 (b.harb.reports.map repA)]),(12,[.int .i64 (b.harb.letters[k]!).port,.int .i64 (b.harb.letters[k]!).day,.int .i64 (b.harb.letters[k]!).ship])],m⟩)
      (fun j => j ≤ b.harb.reports.length ∧ repsB b.harb x k [] s j = true) (fun j => b.harb.reports.length - j) 0 (fun _ => rfl) ⟨by omega,rfl⟩ (by (simp only [FE,↓FP,seval]); try simp) ?_
     rintro j ⟨hj,hsj⟩
     have hrs1 := hrs j
     have hrp2 := fun q : j < b.harb.reports.length => hrp j q
     have hob : ofB b.harb k [] j = (decide (2 ≤ (b.harb.reports[j]!).kind) && (decide ((b.harb.reports[j]!).of_ = (k : Int)) && decide ((j : Int) ∉ ([] : List Int)))) := rfl
     have hsd1 := hsd (b.harb.reports[j]!) D
     have hfa1 := hfalse (j + 1)
     rw [hsj,Bool.true_and] at hrs1
     by_cases hjl : j < b.harb.reports.length
     ·have hr := hrp2 hjl
      have hs1 := hso (b.harb.reports[j]!) hr.2.2.2 _ hd2
      rw [← hvd] at hs1
      rw [hDD,← hs1] at hrs1
      have hfa2 := hfa1 (by omega)
      by_cases hq : 2 ≤ (b.harb.reports[j]!).kind ∧ (b.harb.reports[j]!).of_ = (k : Int)
      ·rw [show ofB b.harb k [] j = true by rw [hob,decide_eq_true hq.1,decide_eq_true hq.2]; simp,Bool.not_true,Bool.false_or] at hrs1
       cases hS : soN (b.harb.reports[j]!) D
       ·rw [hS] at hsd1 hrs1
        have hfa3 := hfa2 hrs1
        simp(maxSteps:=9^9)only[↓VX,VQ,seval]
        repeat'(first|intro _|apply And.intro)
        all_goals try first|omega|(simp only[LL];omega)|exact nlC (by decide) _|exact nbC rfl
        all_goals try (exfalso; omega)
        all_goals
         ((refine ACall.pure (hsd1) ?_; try simp(maxSteps:=9^9)only[↓VX,VQ,seval]); try simp(maxSteps:=9^9)only[↓VX,VQ,seval,GL])
         repeat'(first|intro _|apply And.intro)
         all_goals try first|omega|(simp only[LL];omega)|exact nlC (by decide) _|exact nbC rfl
         (refine ⟨s + 1,by first | omega | (dsimp only; omega),by dsimp only; omega,?_⟩; (simp only [FE,↓FP,seval]); try simp [hfa3])
       ·rw [hS] at hsd1 hrs1
        simp(maxSteps:=9^9)only[↓VX,VQ,seval]
        repeat'(first|intro _|apply And.intro)
        all_goals try first|omega|(simp only[LL];omega)|exact nlC (by decide) _|exact nbC rfl
        all_goals try (exfalso; omega)
        all_goals
         ((refine ACall.pure (hsd1) ?_; try simp(maxSteps:=9^9)only[↓VX,VQ,seval]); try simp(maxSteps:=9^9)only[↓VX,VQ,seval,GL])
         repeat'(first|intro _|apply And.intro)
         all_goals try first|omega|(simp only[LL];omega)|exact nlC (by decide) _|exact nbC rfl
         refine ⟨j + 1,⟨by omega,hrs1⟩,by dsimp only; omega,?_⟩
         (simp only [FE,↓FP,seval])
         try simp
      ·rw [show ofB b.harb k [] j = false by
        rw [hob]
        by_cases q1 : 2 ≤ (b.harb.reports[j]!).kind
        ·rw [decide_eq_false (fun w => hq ⟨q1,w⟩)]; simp
        ·rw [decide_eq_false q1]; rfl,Bool.not_false,Bool.true_or] at hrs1
       simp(maxSteps:=9^9)only[↓VX,VQ,seval]
       repeat'(first|intro _|apply And.intro)
       all_goals try first|omega|(simp only[LL];omega)|exact nlC (by decide) _|exact nbC rfl
       all_goals try (exfalso; omega)
       all_goals
        refine ⟨j + 1,⟨by omega,hrs1⟩,by dsimp only; omega,?_⟩
        (simp only [FE,↓FP,seval])
        try simp
     ·have hje : j = b.harb.reports.length := by omega
      subst hje
      rw [hsj] at hcb
      rw [if_pos hcb] at hvs2
      simp(maxSteps:=9^9)only[↓VX,VQ,seval,buildV]
      repeat'(first|intro _|apply And.intro)
      all_goals try first|omega|(simp only[LL];omega)|exact nlC (by decide) _|exact nbC rfl
      all_goals skip
      (refine ⟨s + 1,by first | omega | (dsimp only; omega),by dsimp only; omega,?_⟩; (simp only [FE,↓FP,seval]); try simp [hvs2,visA])
    ·rw [show canB b.harb x k [] s = false by rw [hcb,hsb,decide_eq_false (show ¬ (b.harb.letters[k]!).day ≤ (b.harb.ships[s]!).sails by omega)]; simp] at hvs2
     (refine ⟨s + 1,by first | omega | (dsimp only; omega),by dsimp only; omega,?_⟩; (simp only [FE,↓FP,seval]); try simp [hvs2])
    ·rw [show canB b.harb x k [] s = false by rw [hcb,hsb,decide_eq_false (show ¬ 0 ≤ atC (b.harb.ships[s]!).calls (b.harb.letters[k]!).port by assumption)]; simp] at hvs2
     (refine ⟨s + 1,by first | omega | (dsimp only; omega),by dsimp only; omega,?_⟩; (simp only [FE,↓FP,seval]); try simp [hvs2])
   ·have hse : s = b.harb.ships.length := by omega
    subst hse
    rw [hno4]
    rw [hgs1,decide_eq_false]
    rw [← hvl1]
    omega
   ·have := fatC_length b.harb x k
    omega
   ·have hse : s = b.harb.ships.length := by omega
    subst hse
    have hgo : goB b.harb x [] (k + 1) = true := by
     rw [hgs1,decide_eq_true]
     rw [← hvl1]
     omega
    refine ⟨k + 1,⟨by omega,hgo⟩,by dsimp only; omega,?_⟩
    (simp only [FE,↓FP,seval])
    rw [hfs1]
    simp [visLA]
  ·have hke : k = b.harb.letters.length := by omega
   subst hke
   rw [hy1 hgk]
   rfl
theorem voyC_app (p q : List Fate) : voyC (p ++ q) = voyC p ++ voyC q := by unfold voyC; simp
theorem voyC_set (p : List Fate) (x e : Fate) (q : List Fate) : (voyC (p ++ x :: q)).take (p.length * 2) ++ [.int .i64 e.late,.int .i64 e.made] ++ (voyC (p ++ x :: q)).drop (p.length * 2 + 2) = voyC (p ++ e :: q) := by
 have hl := voyC_length p
 rw [voyC_app,voyC_app,List.take_append_of_le_length (by omega),List.take_of_length_le (by omega),List.drop_append,List.drop_eq_nil_of_le (by omega),hl,show p.length * 2 + 2 - p.length * 2 = 2 by omega,List.append_assoc]
 rfl
theorem voyC_zero (n : Nat) : (List.replicate n [AV.int .i64 0,AV.int .i64 0]).flatten = voyC (List.replicate n ⟨0,0⟩) := by
 unfold voyC
 rw [List.map_replicate,List.map_replicate]; rfl
structure VTok (h : RHarb) (P : Nat → Prop) (l : Nat) (J : List (List Fate) → Mem → Prop) : Prop where
 st : ∀ pre m1 m2,J pre m1 → Keeps P m1 m2 → J pre m2
 y : ∀ pre x lb m1,pre.length ≤ 4096 → P lb → FOk h x → J pre m1 → m1 lb = some (.cells (voyC x)) → (∀ k,P k → m1 k ≠ none) → AYield Try.prog l [.mslice lb 0 h.ships.length h.ships.length] m1 (fun r m2 => r = .bool true ∧ J (pre ++ [x]) m2 ∧ ∀ k y,P k → m1 k = some y → m2 k = some y)
def vnextA (h : RHarb) (lb l nx : Nat) : AV := .fn (.func 50) [] [.eptr [.mslice lb 0 h.ships.length h.ships.length],.eptr [.fn (.yield l) [] []],.eptr (harbL h),.ptr nx 0]
theorem vnext_c (h : RHarb) (hh : HOk h) {P : Nat → Prop} {lb nx l : Nat} {J : List (List Fate) → Mem → Prop} (hP : P lb) (hPx : P nx) (hPo : ∀ k,P k → k = lb ∨ k = nx) (hnx : lb ≠ nx) (hy : VTok h P l J) :
  ∀ (n : Nat) (p : List Fate),PreOk h p → p.length + n = h.ships.length → ∀ (left : Int),0 ≤ left → left ≤ 3 → ∀ (pre : List (List Fate)) (q : List Fate) (m : Mem),pre.length + (voyD (h.ships.drop p.length) left).length ≤ 4097 → q.length = n → m lb = some (.cells (voyC (p ++ q))) → m nx = some (.cells [vnextA h lb l nx]) → J pre m →
  ACall Try.prog 50 [.int .i64 p.length,.int .i64 left,.eptr [.mslice lb 0 h.ships.length h.ships.length],.eptr [.fn (.yield l) [] []],.eptr (harbL h),.ptr nx 0] m
   (fun r m' => r = .bool true ∧ (∃ q',q'.length = n ∧ m' lb = some (.cells (voyC (p ++ q')))) ∧ m' nx = some (.cells [vnextA h lb l nx]) ∧ J (pre ++ (voyD (h.ships.drop p.length) left).map fun g => p ++ g) m')
 | 0,p,hp,hn,left,hl0,hl3,pre,q,m,hroom,hq,hm,hmx,hJ => by
  have hpn : p.length = h.ships.length := by omega
  have hq0 : q = [] := List.eq_nil_of_length_eq_zero hq
  subst hq0
  rw [List.append_nil] at hm
  rw [List.drop_eq_nil_of_le (by omega)] at hroom ⊢
  simp only [voyD,List.map_cons,List.map_nil,List.append_nil,List.length_cons,List.length_nil] at hroom ⊢
  have hy1 := hy.y pre p lb m (by omega) hP (hp.full hpn) hJ hm fun k hk => by
   rcases hPo k hk with rfl | rfl
   ·rw [hm]; simp
   ·rw [hmx]; simp
  have e0 : ((p.length : Int) = (h.ships.length : Int)) = True := by simp; omega
  simp only [harbL] at *
  (refine acall_intro (E := envC (modeAt [] []) false []) (envCOk _ _ _) rfl Try.func50 rfl Try.call50 (by kernel_rfl) (by simp [Try.ntmps50]) ?_; simp only [Try.f50];  simp(maxSteps:=9^9)only[↓VX,VQ,seval,e0])
  refine AYield.mono hy1 ?_
  rintro r m2 ⟨rfl,g1,g2⟩
  simp(maxSteps:=9^9)only[↓VX,VQ,seval]
  exact ⟨⟨[],rfl,by rw [List.append_nil]; exact g2 _ _ hP hm⟩,g2 _ _ hPx hmx,g1⟩
 | n + 1,p,hp,hn,left,hl0,hl3,pre,q,m,hroom,hq,hm,hmx,hJ => by
  have ih := vnext_c h hh hP hPx hPo hnx hy n
  have hk : p.length < h.ships.length := by omega
  have hso := hh.ship p.length hk
  have hdrop : h.ships.drop p.length = h.ships[p.length]! :: h.ships.drop (p.length + 1) := by rw [getD_any hk,List.drop_eq_getElem_cons hk]
  rw [hdrop] at hroom ⊢
  have h3 := hh.n
  have hpn := fun (e : Fate) => PreOk.snoc (e := e) hp hk
  have hla := hso.late
  have hca := hso.n
  have hsk : ∀ i : Nat,i ≤ (h.ships[p.length]!).calls.length → min 1 (((h.ships[p.length]!).calls.length : Int) - (i : Int)) = sinksI (h.ships[p.length]!) i := fun i hi => by
   unfold sinksI
   split <;> omega
  have e0 : ((p.length : Int) = (h.ships.length : Int)) = False := by simp; omega
  simp only [harbL,vnextA] at *
  (refine acall_intro (E := envC (modeAt [9] []) false []) (envCOk _ _ _) rfl Try.func50 rfl Try.call50 (by kernel_rfl) (by simp [Try.ntmps50]) ?_; simp only [Try.f50];  simp(maxSteps:=9^9)only[↓VX,VQ,seval,e0])
  repeat'(first|intro _|apply And.intro)
  all_goals try first|omega|(simp only[LL];omega)|exact nlC (by decide) _|exact nbC rfl
  have hlv := lateV_all p (h.ships[p.length]!) (h.ships.drop (p.length + 1)) left
  rw [← hlv]
  have hrm : (voyD (h.ships[p.length]! :: h.ships.drop (p.length + 1)) left).length = (lateV p (h.ships[p.length]!) (h.ships.drop (p.length + 1)) left ((h.ships[p.length]!).hi - (h.ships[p.length]!).lo + 1).toNat).length := by rw [hlv,List.length_map]
  rw [hrm] at hroom
  clear hlv hdrop hrm
  generalize hs : h.ships[p.length]! = s at *
  generalize hr : h.ships.drop (p.length + 1) = r at *
  have hls := lateV_succ p s r left
  have hms := madeV_succ p s r left
  generalize hN : (s.hi - s.lo + 1).toNat = N at *
  refine aloop (envCOk _ _ _) (fun x : Nat × List Fate × Mem => ⟨[(0,.v (.int .i64 p.length)),(1,.v (.int .i64 left)),(2,.v (.eptr [.mslice lb 0 h.ships.length h.ships.length])),(3,.v (.eptr [.fn (.yield l) [] []])),(4,.v (.eptr [.int .i64 h.ports,.int .i64 h.lost,.slice 5 (h.ships.map shipA),.slice 3 (h.letters.map letA),.slice 4 (h.reports.map repA)])),(5,.v (.ptr nx 0)),(9,.loc 9 0),(10,.v (.int .i64 (s.lo + x.1)))],[],
    [(9,[.str s.name,.int .i64 s.sails,.slice 2 (s.calls.map callA),.int .i64 s.lo,.int .i64 s.hi])],x.2.2⟩)
   (fun x => x.1 ≤ N ∧ x.2.1.length = n + 1 ∧ x.2.2 lb = some (.cells (voyC (p ++ x.2.1))) ∧ x.2.2 nx = m nx ∧ J (pre ++ lateV p s r left x.1) x.2.2)
   (fun x => N - x.1) (0,q,m) (fun _ => rfl) ⟨by dsimp only; omega,hq,hm,rfl,by simpa [lateV,latesTo] using hJ⟩ (by (simp only [FE,↓FP,seval]); try simp [overlay,shipL]) ?_
  rintro ⟨j,qj,mj⟩ ⟨hj,hqj,hmj,hxj,hJj⟩
  dsimp only at hj hqj hmj hxj hJj
  have hls1 := hls j
  simp(maxSteps:=9^9)only[↓VX,VQ,seval]
  repeat'(first|intro _|apply And.intro)
  all_goals try first|omega|(simp only[LL];omega)|exact nlC (by decide) _|exact nbC rfl
  ·have hjl : j < N := by omega
   refine aloop (envCOk _ _ _) (fun x : Nat × List Fate × Mem => ⟨[(0,.v (.int .i64 p.length)),(1,.v (.int .i64 left)),(2,.v (.eptr [.mslice lb 0 h.ships.length h.ships.length])),(3,.v (.eptr [.fn (.yield l) [] []])),(4,.v (.eptr [.int .i64 h.ports,.int .i64 h.lost,.slice 5 (h.ships.map shipA),.slice 3 (h.letters.map letA),.slice 4 (h.reports.map repA)])),(5,.v (.ptr nx 0)),(9,.loc 9 0),(10,.v (.int .i64 (s.lo + j))),(38,.v (.int .i64 ((s.calls.length : Int) + 1))),(39,.v (.int .i64 x.1))],[],
     [(9,[.str s.name,.int .i64 s.sails,.slice 2 (s.calls.map callA),.int .i64 s.lo,.int .i64 s.hi])],x.2.2⟩)
    (fun x => x.1 ≤ s.calls.length + 1 ∧ x.2.1.length = n + 1 ∧ x.2.2 lb = some (.cells (voyC (p ++ x.2.1))) ∧ x.2.2 nx = m nx ∧ J (pre ++ lateV p s r left j ++ madeV p s r left (s.lo + j) x.1) x.2.2)
    (fun x => s.calls.length + 1 - x.1) (0,qj,mj) (fun _ => rfl) ⟨by dsimp only; omega,hqj,hmj,hxj,by simpa [madeV,madesTo] using hJj⟩ (by (simp only [FE,↓FP,seval]); try simp) ?_
   rintro ⟨i,qi,mi⟩ ⟨hi,hqi,hmi,hxi,hJi⟩
   dsimp only at hi hqi hmi hxi hJi
   have hms1 := hms (s.lo + j) i
   obtain ⟨e1,q1,rfl⟩ : ∃ e1 q1,qi = e1 :: q1 := by
    match qi,hqi with
    | e1 :: q1,_ => exact ⟨e1,q1,rfl⟩
   have hq1 : q1.length = n := by simpa using hqi
   have hst := voyC_set p e1 ⟨s.lo + j,i⟩ q1
   have hvl : (voyC (p ++ e1 :: q1)).length = h.ships.length * 2 := by rw [voyC_length]; simp; omega
   by_cases hil : i < s.calls.length + 1
   ·have hsk1 := hsk i (by omega)
    have hp1 := hpn ⟨s.lo + j,i⟩ (by dsimp only; omega) (by dsimp only; omega)
    have hsc := sinks_cases s i
    rw [hmx] at hxi
    have hk1 : Keeps P mi (upd mi lb (some (.cells (voyC (p ++ Fate.mk (s.lo + j) i :: q1))))) := Keeps.set hP
    have hJ2 := hy.st _ _ _ hJi hk1
    by_cases hle : sinksI s i ≤ left
    ·have hrm := voy_room (p := p) (r := r) hjl hil hle
     have hih := ih (p ++ [⟨s.lo + j,i⟩]) hp1 (by simp; omega) (left - sinksI s i) (by omega) (by omega) (pre ++ lateV p s r left j ++ madeV p s r left (s.lo + j) i) q1 _ (by rw [show (p ++ [Fate.mk (s.lo + j) i]).length = p.length + 1 by simp,hr,List.length_append,List.length_append]; omega) hq1 (by rw [List.append_assoc]; exact upd_same _ _ _) (by rw [upd_ne _ _ hnx.symm]; exact hxi) hJ2
     rw [if_pos hle] at hms1
     have hpl : (p ++ [Fate.mk (s.lo + j) i]).length = p.length + 1 := by simp
     rw [hpl,hr,Int.natCast_add,Int.natCast_one] at hih
     simp only [List.append_assoc,List.cons_append,List.nil_append] at hih
     have hle' : (sinksI s i ≤ left) = True := by simp [hle]
     simp(maxSteps:=9^9)only[↓VX,VQ,seval,hmi,hst,hvl,hsk1,hxi,hnx,hnx.symm,hle',buildV,Int.natCast_zero]
     repeat'(first|intro _|apply And.intro)
     all_goals try first|omega|(simp only[LL];omega)|exact nlC (by decide) _|exact nbC rfl
     refine ACall.told hih ?_
     rintro r2 m2 ⟨rfl,⟨q2,g1,g2⟩,g3,g4⟩
     simp(maxSteps:=9^9)only[↓VX,VQ,seval]
     repeat'(first|intro _|apply And.intro)
     all_goals try first|omega|(simp only[LL];omega)|exact nlC (by decide) _|exact nbC rfl
     refine ⟨(i + 1,⟨s.lo + j,i⟩ :: q2,m2),⟨by dsimp only; omega,by simp [g1],g2,by rw [hmx]; exact g3,?_⟩,by dsimp only; omega,?_⟩
     ·dsimp only
      rw [hms1]
      simp only [List.append_assoc]
      exact g4
     ·(simp only [FE,↓FP,seval])
      try simp
    ·have hle' : (sinksI s i ≤ left) = False := by simp [hle]
     rw [if_neg hle,List.append_nil] at hms1
     simp(maxSteps:=9^9)only[↓VX,VQ,seval,hmi,hst,hvl,hsk1,hxi,hnx,hnx.symm,hle',buildV,Int.natCast_zero]
     repeat'(first|intro _|apply And.intro)
     all_goals try first|omega|(simp only[LL];omega)|exact nlC (by decide) _|exact nbC rfl
     refine ⟨(i + 1,⟨s.lo + j,i⟩ :: q1,upd mi lb (some (.cells (voyC (p ++ Fate.mk (s.lo + j) i :: q1))))),⟨by dsimp only; omega,hqi,upd_same _ _ _,by dsimp only; rw [upd_ne _ _ hnx.symm,hmx]; exact hxi,by dsimp only; rw [hms1]; exact hJ2⟩,by dsimp only; omega,?_⟩
     (simp only [FE,↓FP,seval])
     try simp
   ·have hie : i = s.calls.length + 1 := by omega
    subst hie
    simp(maxSteps:=9^9)only[↓VX,VQ,seval]
    repeat'(first|intro _|apply And.intro)
    all_goals try first|omega|(simp only[LL];omega)|exact nlC (by decide) _|exact nbC rfl
    refine ⟨(j + 1,e1 :: q1,mi),⟨by dsimp only; omega,hqi,hmi,hxi,by dsimp only; rw [hls1,← List.append_assoc]; exact hJi⟩,by dsimp only; omega,?_⟩
    (simp only [FE,↓FP,seval])
    try simp
    try omega
  ·exact ⟨qj,hqj,hmj⟩
  ·rw [hxj]; exact hmx
  ·rw [show N = j by omega]; exact hJj
theorem voyages1_c (b : RBook) (hh : HOk b.harb) (A F K : AV) (least : Int) (bk l : Nat) (m : Mem) (hbk : m bk = some (.cells (bookC b A F K least))) {J : (Nat → Prop) → List (List Fate) → Mem → Prop}
  (hy : ∀ P,(∀ k,P k → m k = none) → VTok b.harb P l (J P)) (hJ : ∀ P m',(∀ k,P k → m k = none) → (∀ k,¬ P k → m' k = m k) → J P [] m') :
  ACall Try.prog 49 [.fn (.yield l) [] [],.eptr [.ptr bk 0]] m fun _ m' => ∃ P,(∀ k,P k → m k = none) ∧ J P (fleetsR b.harb.ships b.harb.lost) m' := by
 have hl := hh.l
 have h3 := hh.n
 have hnext := fun (P : Nat → Prop) (lb nx : Nat) (h1 : P lb) (h2 : P nx) (h0 : ∀ k,P k → k = lb ∨ k = nx) (h3 : lb ≠ nx) (hv : VTok b.harb P l (J P)) => vnext_c b.harb hh h1 h2 h0 h3 hv b.harb.ships.length [] (PreOk.nil _) (by simp) b.harb.lost hl.1 hl.2 [] (List.replicate b.harb.ships.length ⟨0,0⟩)
 simp only [List.length_nil,List.drop_zero,Int.natCast_zero,List.nil_append,List.map_id',List.length_replicate,voy_fleets _ hh,Nat.zero_add] at hnext
 have hz := voyC_zero b.harb.ships.length
 simp only [bookC,harbL,vnextA,List.cons_append,List.nil_append] at *
 (refine acall_intro (E := envC (modeAt [3,4] [14,5]) false []) (envCOk _ _ _) rfl Try.func49 rfl Try.call49 (by kernel_rfl) (by simp [Try.ntmps49]) ?_; simp only [Try.f49];  simp(maxSteps:=9^9)only[↓VX,VQ,seval,hbk])
 repeat'(first|intro _|apply And.intro)
 all_goals try first|omega|(simp only[LL];omega)|exact nlC (by decide) _|exact nbC rfl
 rename_i lb hlb nx hnx
 have hne : nx ≠ lb := by rintro rfl; simp at hnx
 have hnx0 : m nx = none := by simpa [hne] using hnx
 have hP : ∀ k,(k = lb ∨ k = nx) → m k = none := by
  rintro k (rfl | rfl)
  ·exact hlb
  ·exact hnx0
 refine ACall.mono (hnext (fun k => k = lb ∨ k = nx) lb nx (.inl rfl) (.inr rfl) (fun _ h => h) hne.symm (hy _ hP) _ (by have := fleets_len hh; omega) trivial ?_ ?_ (hJ _ _ hP fun k hk => ?_)) ?_
 ·simp only [upd,hne,hne.symm,if_true,if_false]
  rw [← hz]
  try simp
 ·simp only [upd,hne,hne.symm,if_true,if_false]
 ·simp only [not_or] at hk
  simp only [upd,if_neg hk.1,if_neg hk.2]
 ·rintro r m' ⟨_,_,_,g⟩
  simp(maxSteps:=9^9)only[↓VX,VQ,seval]
  exact ⟨_,hP,g⟩
theorem voyagesF_c (bk : Nat) : PCall Try.prog 41 [.ptr bk 0] (.fn (.func 49) [] [.eptr [.ptr bk 0]]) := by
 intro m
 (refine acall_intro (E := env fun _ => .imm) (envOk _) rfl Try.func41 rfl Try.call41 (by kernel_rfl) (by simp [Try.ntmps41]) ?_; simp only [Try.f41];  simp(maxSteps:=9^9)only[↓VX,VQ,seval])
def AnsIn (l : List RAns) (A : AV) (m : Mem) : Prop := A = .slice 3 (l.map ansA) ∨ ∃ bb cap tail,A = .mslice bb 0 l.length cap ∧ m bb = some (.cells (ansC l ++ tail)) ∧ l.length ≤ cap
theorem fits32 : ∀ (x : Nat),x < 32 → ∀ y,y < 32 → decide (natAndNot x y = 0) = (List.range 5).all fun w => !bitI (x : Int) (w : Int) || bitI (y : Int) (w : Int) := by decide +kernel
theorem fits_bits {x y : Int} (h1 : 1 ≤ x ∧ x ≤ 31) (h2 : 1 ≤ y ∧ y ≤ 31) : decide (((natAndNot x.toNat y.toNat : Nat) : Int) = 0) = (List.range 5).all fun w => !bitI x (w : Int) || bitI y (w : Int) := by
 have := fits32 x.toNat (by omega) y.toNat (by omega)
 rw [Int.toNat_of_nonneg (by omega),Int.toNat_of_nonneg (by omega)] at this
 rw [← this,decide_eq_decide]
 omega
theorem fits_c (b : RBook) (hb : BOk b) (A F K : AV) (least : Int) (bk : Nat) (a : Nat) (ha : a < b.answers.length) (k : Nat) (hk : k < b.harb.letters.length) (m : Mem) (hbk : m bk = some (.cells (bookC b A F K least))) (hA : AnsIn b.answers A m) :
  ACall Try.prog 37 [.ptr bk 0,.int .i64 a,.int .i64 k] m fun r m' => r = .bool (fitsB b a k) ∧ m' = m := by
 have hw := hb.w
 have h1 := (hb.ans a ha).2.1
 have h2 := hb.word k (by omega)
 have hf := fits_bits h1 h2
 have e0 : fitsB b a k = (decide ((b.answers[a]!).port = (b.harb.letters[k]!).port) && (List.range 5).all fun w => !bitI (b.answers[a]!).words w || bitI (b.words[k]!) w) := rfl
 rw [← hf] at e0
 clear hf
 have hna := hb.n
 have hnl := hb.h.nl
 generalize fitsB b a k = R at *
 rcases hA with rfl | ⟨bb,cap,tail,rfl,hbb,hcap⟩
 ·simp only [bookC,harbL,ints,List.cons_append,List.nil_append] at *
  (refine acall_intro (E := envC (modeAt [7] []) false []) (envCOk _ _ _) rfl Try.func37 rfl Try.call37 (by kernel_rfl) (by simp [Try.ntmps37]) ?_; simp only [Try.f37];  simp(maxSteps:=9^9)only[↓VX,VQ,seval,hbk,↓ixAns])
  repeat'(first|intro _|apply And.intro)
  all_goals try first|omega|(simp only[LL];omega)|exact nlC (by decide) _|exact nbC rfl
  by_cases q : (b.answers[a]!).port = (b.harb.letters[k]!).port
  ·have q' : ((b.answers[a]!).port = (b.harb.letters[k]!).port) = True := eq_true q
   rw [decide_eq_true q,Bool.true_and] at e0
   (refine adraw (by first | exact envOk _ | exact envCOk _ _ _) mixed [⟨false,false,0⟩,⟨false,false,0⟩,⟨false,false,0⟩,⟨false,false,0⟩,⟨false,false,0⟩,⟨false,false,0⟩,⟨false,false,0⟩,⟨false,false,0⟩,⟨false,false,0⟩,⟨false,false,0⟩,⟨false,false,0⟩,⟨false,false,0⟩,⟨false,false,0⟩,⟨false,false,0⟩,⟨false,false,0⟩,⟨false,false,0⟩,⟨false,false,0⟩,⟨false,false,0⟩,⟨false,false,0⟩,⟨false,false,0⟩,⟨false,false,0⟩,⟨false,false,0⟩,⟨false,false,0⟩,⟨false,false,0⟩,⟨false,false,0⟩,⟨false,false,0⟩,⟨false,false,0⟩,⟨false,false,0⟩] (by kernel_rfl) ?_; show vcOpsD _ _ _ (_ :: _) _ _)
   simp(maxSteps:=9^9)only[↓VX,VQ,seval,hbk,↓ixAns,q',Int.reduceEq]
   repeat'(first|intro _|apply And.intro)
   all_goals try first|omega|(simp only[LL];omega)|exact nlC (by decide) _|exact nbC rfl
   rw [e0]
  ·have q' : ((b.answers[a]!).port = (b.harb.letters[k]!).port) = False := eq_false q
   rw [decide_eq_false q,Bool.false_and] at e0
   (refine adraw (by first | exact envOk _ | exact envCOk _ _ _) mixed [⟨false,false,0⟩,⟨false,false,0⟩,⟨false,false,0⟩,⟨false,false,0⟩,⟨false,false,0⟩,⟨false,false,0⟩,⟨false,false,0⟩,⟨false,false,0⟩,⟨false,false,0⟩,⟨false,false,0⟩,⟨false,false,0⟩,⟨false,false,0⟩,⟨false,false,0⟩,⟨false,false,0⟩,⟨false,false,0⟩,⟨false,false,0⟩,⟨false,false,0⟩,⟨false,false,0⟩,⟨false,false,0⟩,⟨false,false,0⟩,⟨false,false,0⟩,⟨false,false,0⟩,⟨false,false,0⟩,⟨false,false,0⟩,⟨false,false,0⟩,⟨false,false,0⟩,⟨false,false,0⟩,⟨false,false,0⟩] (by kernel_rfl) ?_; show vcOpsD _ _ _ (_ :: _) _ _)
   simp(maxSteps:=9^9)only[↓VX,VQ,seval,hbk,↓ixAns,q',Int.reduceEq]
   repeat'(first|intro _|apply And.intro)
   all_goals try first|omega|(simp only[LL];omega)|exact nlC (by decide) _|exact nbC rfl
   rw [e0]
 ·obtain ⟨rr,hdr⟩ := ansC_at b.answers tail a ha
  simp only [bookC,harbL,ints,List.cons_append,List.nil_append] at *
  (refine acall_intro (E := envC (modeAt [7] []) false []) (envCOk _ _ _) rfl Try.func37 rfl Try.call37 (by kernel_rfl) (by simp [Try.ntmps37]) ?_; simp only [Try.f37];  simp(maxSteps:=9^9)only[↓VX,VQ,seval,hbk,hbb,hdr])
  repeat'(first|intro _|apply And.intro)
  all_goals try first|omega|(simp only[LL];omega)|exact nlC (by decide) _|exact nbC rfl
  by_cases q : (b.answers[a]!).port = (b.harb.letters[k]!).port
  ·have q' : ((b.answers[a]!).port = (b.harb.letters[k]!).port) = True := eq_true q
   rw [decide_eq_true q,Bool.true_and] at e0
   (refine adraw (by first | exact envOk _ | exact envCOk _ _ _) mixed [⟨false,false,0⟩,⟨false,false,0⟩,⟨false,false,0⟩,⟨false,false,0⟩,⟨false,false,0⟩,⟨false,false,0⟩,⟨false,false,0⟩,⟨false,false,0⟩,⟨false,false,0⟩,⟨false,false,0⟩,⟨false,false,0⟩,⟨false,false,0⟩,⟨false,false,0⟩,⟨false,false,0⟩,⟨false,false,0⟩,⟨false,false,0⟩,⟨false,false,0⟩,⟨false,false,0⟩,⟨false,false,0⟩,⟨false,false,0⟩,⟨false,false,0⟩,⟨false,false,0⟩,⟨false,false,0⟩,⟨false,false,0⟩,⟨false,false,0⟩,⟨false,false,0⟩,⟨false,false,0⟩,⟨false,false,0⟩] (by kernel_rfl) ?_; show vcOpsD _ _ _ (_ :: _) _ _)
   simp(maxSteps:=9^9)only[↓VX,VQ,seval,hbk,q',Int.reduceEq]
   repeat'(first|intro _|apply And.intro)
   all_goals try first|omega|(simp only[LL];omega)|exact nlC (by decide) _|exact nbC rfl
   rw [e0]
  ·have q' : ((b.answers[a]!).port = (b.harb.letters[k]!).port) = False := eq_false q
   rw [decide_eq_false q,Bool.false_and] at e0
   (refine adraw (by first | exact envOk _ | exact envCOk _ _ _) mixed [⟨false,false,0⟩,⟨false,false,0⟩,⟨false,false,0⟩,⟨false,false,0⟩,⟨false,false,0⟩,⟨false,false,0⟩,⟨false,false,0⟩,⟨false,false,0⟩,⟨false,false,0⟩,⟨false,false,0⟩,⟨false,false,0⟩,⟨false,false,0⟩,⟨false,false,0⟩,⟨false,false,0⟩,⟨false,false,0⟩,⟨false,false,0⟩,⟨false,false,0⟩,⟨false,false,0⟩,⟨false,false,0⟩,⟨false,false,0⟩,⟨false,false,0⟩,⟨false,false,0⟩,⟨false,false,0⟩,⟨false,false,0⟩,⟨false,false,0⟩,⟨false,false,0⟩,⟨false,false,0⟩,⟨false,false,0⟩] (by kernel_rfl) ?_; show vcOpsD _ _ _ (_ :: _) _ _)
   simp(maxSteps:=9^9)only[↓VX,VQ,seval,hbk,q',Int.reduceEq]
   repeat'(first|intro _|apply And.intro)
   all_goals try first|omega|(simp only[LL];omega)|exact nlC (by decide) _|exact nbC rfl
   rw [e0]
theorem strays_c (b : RBook) (hb : BOk b) (A F K : AV) (least : Int) (bk : Nat) (w : List Int) (hw : w.length = b.answers.length) (m : Mem) (hbk : m bk = some (.cells (bookC b A F K least))) (hA : AnsIn b.answers A m) :
  ACall Try.prog 40 [.ptr bk 0,ownA w] m fun r m' => r = .int .i64 (manyL w) ∧ m' = m := by
 have hna := hb.n
 have hE := ownE_length w
 have hat := fun (i : Nat) (q : i < w.length) => ownE_at q (by omega)
 have hmy := fun n => manyTo_succ (l := w) (n := n)
 have hml := manyTo_le w
 have e0 : manyL w = manyTo w w.length := by unfold manyL manyTo; rw [List.take_length]
 have hdr := fun (i : Nat) (q : i < w.length) => drop_ints (l := ownE w) (k := i) (by omega)
 simp only [bookC,harbL,ints,ownA,List.cons_append,List.nil_append] at *
 rcases hA with rfl | ⟨bb,cap,tail,rfl,hbb,hcap⟩
 ·(refine acall_intro (E := envC (modeAt [3] []) false []) (envCOk _ _ _) rfl Try.func40 rfl Try.call40 (by kernel_rfl) (by simp [Try.ntmps40]) ?_; simp only [Try.f40];  simp(maxSteps:=9^9)only[↓VX,VQ,seval,hbk])
  repeat'(first|intro _|apply And.intro)
  all_goals try first|omega|(simp only[LL];omega)|exact nlC (by decide) _|exact nbC rfl
  refine aloop (envCOk _ _ _) (fun i : Nat => ⟨[(4,.v (.int .i64 (manyTo w i))),(13,.lslice 3 0 b.answers.length 3),(14,.v (.int .i64 b.answers.length)),(15,.v (.int .i64 i))],[],[(3,(ownE w).map (AV.int .i64))],m⟩)
   (fun i => i ≤ b.answers.length) (fun i => b.answers.length - i) 0 (fun _ => rfl) (by omega) (by (simp only [FE,↓FP,seval]); try simp [manyTo]) ?_
  intro i hi
  have hmy1 := hmy i
  have hml1 := hml i
  by_cases hil : i < b.answers.length
  ·have hd := hdr i (by omega)
   rw [hat i (by omega)] at hd
   have hmy2 := hmy1 (by omega)
   simp(maxSteps:=9^9)only[↓VX,VQ,seval,hd]
   repeat'(first|intro _|apply And.intro)
   all_goals try first|omega|(simp only[LL];omega)|exact nlC (by decide) _|exact nbC rfl
   ·rw [if_pos (by omega)] at hmy2
    (refine ⟨i + 1,by first | omega | (dsimp only; omega),by dsimp only; omega,?_⟩; (simp only [FE,↓FP,seval]); try simp [hmy2])
   ·rw [if_neg (by omega)] at hmy2
    (refine ⟨i + 1,by first | omega | (dsimp only; omega),by dsimp only; omega,?_⟩; (simp only [FE,↓FP,seval]); try simp [hmy2])
  ·have hie : i = b.answers.length := by omega
   subst hie
   simp(maxSteps:=9^9)only[↓VX,VQ,seval]
   repeat'(first|intro _|apply And.intro)
   all_goals try first|omega|(simp only[LL];omega)|exact nlC (by decide) _|exact nbC rfl
   rw [e0,hw]
 ·(refine acall_intro (E := envC (modeAt [3] []) false []) (envCOk _ _ _) rfl Try.func40 rfl Try.call40 (by kernel_rfl) (by simp [Try.ntmps40]) ?_; simp only [Try.f40];  simp(maxSteps:=9^9)only[↓VX,VQ,seval,hbk])
  repeat'(first|intro _|apply And.intro)
  all_goals try first|omega|(simp only[LL];omega)|exact nlC (by decide) _|exact nbC rfl
  refine aloop (envCOk _ _ _) (fun i : Nat => ⟨[(4,.v (.int .i64 (manyTo w i))),(13,.lslice 3 0 b.answers.length 3),(14,.v (.int .i64 b.answers.length)),(15,.v (.int .i64 i))],[],[(3,(ownE w).map (AV.int .i64))],m⟩)
   (fun i => i ≤ b.answers.length) (fun i => b.answers.length - i) 0 (fun _ => rfl) (by omega) (by (simp only [FE,↓FP,seval]); try simp [manyTo]) ?_
  intro i hi
  have hmy1 := hmy i
  have hml1 := hml i
  by_cases hil : i < b.answers.length
  ·have hd := hdr i (by omega)
   rw [hat i (by omega)] at hd
   have hmy2 := hmy1 (by omega)
   simp(maxSteps:=9^9)only[↓VX,VQ,seval,hd]
   repeat'(first|intro _|apply And.intro)
   all_goals try first|omega|(simp only[LL];omega)|exact nlC (by decide) _|exact nbC rfl
   ·rw [if_pos (by omega)] at hmy2
    (refine ⟨i + 1,by first | omega | (dsimp only; omega),by dsimp only; omega,?_⟩; (simp only [FE,↓FP,seval]); try simp [hmy2])
   ·rw [if_neg (by omega)] at hmy2
    (refine ⟨i + 1,by first | omega | (dsimp only; omega),by dsimp only; omega,?_⟩; (simp only [FE,↓FP,seval]); try simp [hmy2])
  ·have hie : i = b.answers.length := by omega
   subst hie
   simp(maxSteps:=9^9)only[↓VX,VQ,seval]
   repeat'(first|intro _|apply And.intro)
   all_goals try first|omega|(simp only[LL];omega)|exact nlC (by decide) _|exact nbC rfl
   rw [e0,hw]
theorem setOf_skip {f : Nat → Bool} {n : Nat} : ∀ {m : Nat},(∀ i,n ≤ i → i < n + m → f i = false) → setOf f (n + m) = setOf f n
 | 0,_ => rfl
 | m + 1,h => by
  have h1 : setOf f (n + m + 1) = if f (n + m) = true then setOf f (n + m) ||| 2 ^ (n + m) else setOf f (n + m) := rfl
  rw [← Nat.add_assoc,h1,h (n + m) (by omega) (by omega),if_neg (by decide)]
  exact setOf_skip fun i h1 h2 => h i h1 (by omega)
structure FateOk (h : RHarb) (f : List (List (Int × Int))) : Prop where
 n : f.length = h.letters.length
 le : ∀ k,k < f.length → (f[k]!).length ≤ 3
 day : ∀ k,k < f.length → ∀ v ∈ f[k]!,0 ≤ v.2 ∧ v.2 ≤ 61
theorem fate_ok {h : RHarb} (hh : HOk h) {t : RTru} (ht : TOk h t) : FateOk h (fateF h t) where
 n := fateF_length h t
 le := fun k hk => by
  rw [fateF_length] at hk
  rw [fateF_at _ _ hk]
  unfold visL
  rw [List.length_map]
  have := ht.len k hk
  omega
 day := fun k hk v hv => by
  rw [fateF_length] at hk
  rw [fateF_at _ _ hk] at hv
  unfold visL at hv
  obtain ⟨s,hs,rfl⟩ := List.mem_map.1 hv
  have h1 := ht.ship k hk s hs
  have h2 := dayR_le hh ht.fok h1.2 (h.letters[k]!).port
  show 0 ≤ visD _ ∧ visD _ ≤ 61
  unfold visD
  split <;> omega
theorem can_c (b : RBook) (hb : BOk b) (f : List (List (Int × Int))) (hf : FateOk b.harb f) (A F K : AV) (least : Int) (bk : Nat) (m : Mem) (hbk : m bk = some (.cells (bookC b A F K least))) (hA : AnsIn b.answers A m) :
  ACall Try.prog 18 [.ptr bk 0,fateFA f] m fun r m' => r = .int .i64 (canS b f : Nat) ∧ m' = m := by
 have hna := hb.n
 have hnl := hb.h.nl
 have hback := hb.back
 have hfn := hf.n
 have hfit := fun (a k : Nat) (q : a < b.answers.length) (q2 : k < b.harb.letters.length) => fits_c b hb A F K least bk a q k q2 m hbk hA
 have hcb : ∀ a k,canBit b f (a * 4 + k) = (decide ((a * 4 + k) % 4 < b.harb.letters.length) && canF b f ((a * 4 + k) / 4) ((a * 4 + k) % 4)) := fun _ _ => rfl
 have hcf : ∀ a k,canF b f a k = (fitsB b a k && (f[k]!).any fun v => decide (v.2 ≤ (b.answers[a]!).day - b.back)) := fun _ _ => rfl
 have hsu : ∀ n,setOf (canBit b f) (n + 1) = if canBit b f n = true then setOf (canBit b f) n ||| 2 ^ n else setOf (canBit b f) n := fun _ => rfl
 have hlt := setOf_lt (canBit b f)
 have hend : ∀ a,setOf (canBit b f) (a * 4 + b.harb.letters.length) = setOf (canBit b f) ((a + 1) * 4 + 0) := fun a => by
  rw [show (a + 1) * 4 + 0 = a * 4 + b.harb.letters.length + (4 - b.harb.letters.length) by omega]
  refine (setOf_skip fun i h1 h2 => ?_).symm
  unfold canBit
  rw [decide_eq_false (by omega)]; rfl
 have hcs : canS b f = setOf (canBit b f) (b.answers.length * 4 + 0) := by unfold canS; rw [Nat.mul_comm]; rfl
 have hans := hb.ans
 have hcut := hf.day
 generalize canS b f = R at *
 generalize hS : setOf (canBit b f) = S at *
 simp only [bookC,harbL,ints,fateFA,List.cons_append,List.nil_append] at *
 rcases hA with rfl | ⟨bb,cap,tail,rfl,hbb,hcap⟩
 ·(refine acall_intro (E := envC (modeAt [7,11] []) false []) (envCOk _ _ _) rfl Try.func18 rfl Try.call18 (by kernel_rfl) (by simp [Try.ntmps18]) ?_; simp only [Try.f18];  simp(maxSteps:=9^9)only[↓VX,VQ,seval,hbk])
  repeat'(first|intro _|apply And.intro)
  all_goals try first|omega|(simp only[LL];omega)|exact nlC (by decide) _|exact nbC rfl
  refine aloop (envCOk _ _ _) (fun a : Nat => ⟨[(0,.v (.ptr bk 0)),(1,.v (.slice 1 (f.map visLA))),(4,.v (.int .i64 (S (a * 4 + 0) : Nat))),(5,.v (.fn (.func 37) [.ptr bk 0] [])),(18,.v (.slice 3 (b.answers.map ansA))),(19,.v (.int .i64 b.answers.length)),(20,.v (.int .i64 a))],[],[],m⟩)
   (fun a => a ≤ b.answers.length) (fun a => b.answers.length - a) 0 (fun _ => rfl) (by omega) (by (simp only [FE,↓FP,seval]); try simp [← hS,setOf]) ?_
  intro a ha
  have hfit1 := hfit a
  have hcb1 := hcb a
  have hend1 := hend a
  have hans1 := hans a
  by_cases hal : a < b.answers.length
  ·have han := (hans1 hal).2.2
   skip
   simp(maxSteps:=9^9)only[↓VX,VQ,seval,↓ixAns]
   repeat'(first|intro _|apply And.intro)
   all_goals try first|omega|(simp only[LL];omega)|exact nlC (by decide) _|exact nbC rfl
   refine aloop (envCOk _ _ _) (fun k : Nat => ⟨[(0,.v (.ptr bk 0)),(1,.v (.slice 1 (f.map visLA))),(4,.v (.int .i64 (S (a * 4 + k) : Nat))),(5,.v (.fn (.func 37) [.ptr bk 0] [])),(6,.v (.int .i64 a)),(7,.loc 7 0),(18,.v (.slice 3 (b.answers.map ansA))),(19,.v (.int .i64 b.answers.length)),(20,.v (.int .i64 a)),(25,.v (.slice 1 (f.map visLA))),(26,.v (.int .i64 f.length)),(27,.v (.int .i64 k))],[],
     [(7,[.int .i64 (b.answers[a]!).port,.int .i64 (b.answers[a]!).words,.int .i64 (b.answers[a]!).day])],m⟩)
    (fun k => k ≤ f.length) (fun k => f.length - k) 0 (fun _ => rfl) (by omega) (by (simp only [FE,↓FP,seval]); try simp [overlay]) ?_
   intro k hk
   have hlt1 := hlt (a * 4 + k)
   have hp12 : 2 ^ (a * 4 + k) ≤ 2 ^ 12 := Nat.pow_le_pow_right (by decide) (by omega)
   have hsu1 := hsu (a * 4 + k)
   have hcb2 := hcb1 k
   have hfit2 := hfit1 k hal
   have hcut1 := hcut k
   rw [Nat.add_assoc] at hsu1
   by_cases hkl : k < f.length
   ·have hfit3 := hfit2 (by omega)
    rw [show (a * 4 + k) % 4 = k by omega,show (a * 4 + k) / 4 = a by omega,decide_eq_true (show k < b.harb.letters.length by omega),Bool.true_and,hcf] at hcb2
    have hcut2 := hcut1 hkl
    generalize hW : f[k]! = W at *
    simp(maxSteps:=9^9)only[↓VX,VQ,seval,↓ixVisL,hW]
    repeat'(first|intro _|apply And.intro)
    all_goals try first|omega|(simp only[LL];omega)|exact nlC (by decide) _|exact nbC rfl
    refine ACall.told hfit3 ?_
    rintro r2 m2 ⟨rfl,rfl⟩
    cases hfb : fitsB b a k
    ·rw [hfb,Bool.false_and] at hcb2
     rw [hcb2,if_neg (by decide)] at hsu1
     simp(maxSteps:=9^9)only[↓VX,VQ,seval]
     repeat'(first|intro _|apply And.intro)
     all_goals try first|omega|(simp only[LL];omega)|exact nlC (by decide) _|exact nbC rfl
     (refine ⟨k + 1,by first | omega | (dsimp only; omega),by dsimp only; omega,?_⟩; (simp only [FE,↓FP,seval]); try simp [hsu1])
    ·rw [hfb,Bool.true_and] at hcb2
     simp(maxSteps:=9^9)only[↓VX,VQ,seval]
     repeat'(first|intro _|apply And.intro)
     all_goals try first|omega|(simp only[LL];omega)|exact nlC (by decide) _|exact nbC rfl
     refine aloop (envCOk _ _ _) (fun i : Nat => ⟨[(0,.v (.ptr bk 0)),(1,.v (.slice 1 (f.map visLA))),(4,.v (.int .i64 (S (a * 4 + k) : Nat))),(5,.v (.fn (.func 37) [.ptr bk 0] [])),(6,.v (.int .i64 a)),(7,.loc 7 0),(8,.v (.int .i64 k)),(18,.v (.slice 3 (b.answers.map ansA))),(19,.v (.int .i64 b.answers.length)),(20,.v (.int .i64 a)),(25,.v (.slice 1 (f.map visLA))),(26,.v (.int .i64 f.length)),(27,.v (.int .i64 k)),
       (37,.v (.slice 2 (W.map visA))),(38,.v (.int .i64 W.length)),(39,.v (.int .i64 i))],[],
       [(7,[.int .i64 (b.answers[a]!).port,.int .i64 (b.answers[a]!).words,.int .i64 (b.answers[a]!).day])],m2⟩)
      (fun i => i ≤ W.length ∧ ∀ v ∈ W.take i,¬ v.2 ≤ (b.answers[a]!).day - b.back) (fun i => W.length - i) 0 (fun _ => rfl) ⟨by omega,by simp⟩ (by (simp only [FE,↓FP,seval]); try simp) ?_
     rintro i ⟨hi,hno⟩
     by_cases hil : i < W.length
     ·have hvd := hcut2 (W[i]!) (by rw [getD_any hil]; exact List.getElem_mem hil)
      have hmem : W[i]! ∈ W := by rw [getD_any hil]; exact List.getElem_mem hil
      simp(maxSteps:=9^9)only[↓VX,VQ,seval,↓ixVis]
      repeat'(first|intro _|apply And.intro)
      all_goals try first|omega|(simp only[LL];omega)|exact nlC (by decide) _|exact nbC rfl
      have hsh : ((a : Int) * 4 + (k : Int)).toNat = a * 4 + k := by omega
      (refine adraw (by first | exact envOk _ | exact envCOk _ _ _) mixed [⟨false,false,0⟩,⟨false,false,0⟩,⟨false,false,0⟩,⟨false,false,0⟩,⟨false,false,0⟩,⟨false,false,0⟩,⟨false,false,0⟩,⟨false,false,0⟩,⟨false,false,0⟩,⟨false,false,0⟩,⟨false,false,0⟩] (by kernel_rfl) ?_; show vcOpsD _ _ _ (_ :: _) _ _)
      simp(maxSteps:=9^9)only[↓VX,VQ,seval,hbk,hsh]
      repeat'(first|intro _|apply And.intro)
      all_goals try first|omega|(simp only[LL];omega)|exact nlC (by decide) _|exact nbC rfl
      ·have q : (W[i]!).2 ≤ (b.answers[a]!).day - b.back := by assumption
       rw [List.any_eq_true.2 ⟨_,hmem,decide_eq_true q⟩] at hcb2
       rw [hcb2,if_pos rfl] at hsu1
       refine ⟨k + 1,by dsimp only; omega,by dsimp only; omega,?_⟩
       (simp only [FE,↓FP,seval])
       rw [hsu1]
       try simp
      ·have q : ¬ (W[i]!).2 ≤ (b.answers[a]!).day - b.back := by assumption
       refine ⟨i + 1,⟨by omega,forall_take_succ hil hno (by rw [← getD_any hil]; exact q)⟩,by dsimp only; omega,?_⟩
       (simp only [FE,↓FP,seval])
       try simp
     ·have hie : i = W.length := by omega
      subst hie
      rw [List.take_length] at hno
      rw [List.any_eq_false.2 (fun v hv => by rw [decide_eq_true_eq]; exact hno v hv)] at hcb2
      rw [hcb2,if_neg (by decide)] at hsu1
      simp(maxSteps:=9^9)only[↓VX,VQ,seval]
      repeat'(first|intro _|apply And.intro)
      all_goals try first|omega|(simp only[LL];omega)|exact nlC (by decide) _|exact nbC rfl
      (refine ⟨k + 1,by first | omega | (dsimp only; omega),by dsimp only; omega,?_⟩; (simp only [FE,↓FP,seval]); try simp [hsu1])
   ·have hke : k = b.harb.letters.length := by omega
    simp(maxSteps:=9^9)only[↓VX,VQ,seval]
    repeat'(first|intro _|apply And.intro)
    all_goals try first|omega|(simp only[LL];omega)|exact nlC (by decide) _|exact nbC rfl
    rw [hke,hend1]
    (refine ⟨a + 1,by first | omega | (dsimp only; omega),by dsimp only; omega,?_⟩; (simp only [FE,↓FP,seval]); try simp [])
  ·have hae : a = b.answers.length := by omega
   simp(maxSteps:=9^9)only[↓VX,VQ,seval]
   repeat'(first|intro _|apply And.intro)
   all_goals try first|omega|(simp only[LL];omega)|exact nlC (by decide) _|exact nbC rfl
   rw [hcs,hae]; rfl
 ·(refine acall_intro (E := envC (modeAt [7,11] []) false []) (envCOk _ _ _) rfl Try.func18 rfl Try.call18 (by kernel_rfl) (by simp [Try.ntmps18]) ?_; simp only [Try.f18];  simp(maxSteps:=9^9)only[↓VX,VQ,seval,hbk])
  repeat'(first|intro _|apply And.intro)
  all_goals try first|omega|(simp only[LL];omega)|exact nlC (by decide) _|exact nbC rfl
  refine aloop (envCOk _ _ _) (fun a : Nat => ⟨[(0,.v (.ptr bk 0)),(1,.v (.slice 1 (f.map visLA))),(4,.v (.int .i64 (S (a * 4 + 0) : Nat))),(5,.v (.fn (.func 37) [.ptr bk 0] [])),(18,.v (.mslice bb 0 b.answers.length cap)),(19,.v (.int .i64 b.answers.length)),(20,.v (.int .i64 a))],[],[],m⟩)
   (fun a => a ≤ b.answers.length) (fun a => b.answers.length - a) 0 (fun _ => rfl) (by omega) (by (simp only [FE,↓FP,seval]); try simp [← hS,setOf]) ?_
  intro a ha
  have hfit1 := hfit a
  have hcb1 := hcb a
  have hend1 := hend a
  have hans1 := hans a
  by_cases hal : a < b.answers.length
  ·have han := (hans1 hal).2.2
   obtain ⟨rr,hdr⟩ := ansC_at b.answers tail a hal
   simp(maxSteps:=9^9)only[↓VX,VQ,seval,hbb,hdr]
   repeat'(first|intro _|apply And.intro)
   all_goals try first|omega|(simp only[LL];omega)|exact nlC (by decide) _|exact nbC rfl
   refine aloop (envCOk _ _ _) (fun k : Nat => ⟨[(0,.v (.ptr bk 0)),(1,.v (.slice 1 (f.map visLA))),(4,.v (.int .i64 (S (a * 4 + k) : Nat))),(5,.v (.fn (.func 37) [.ptr bk 0] [])),(6,.v (.int .i64 a)),(7,.loc 7 0),(18,.v (.mslice bb 0 b.answers.length cap)),(19,.v (.int .i64 b.answers.length)),(20,.v (.int .i64 a)),(25,.v (.slice 1 (f.map visLA))),(26,.v (.int .i64 f.length)),(27,.v (.int .i64 k))],[],
     [(7,[.int .i64 (b.answers[a]!).port,.int .i64 (b.answers[a]!).words,.int .i64 (b.answers[a]!).day])],m⟩)
    (fun k => k ≤ f.length) (fun k => f.length - k) 0 (fun _ => rfl) (by omega) (by (simp only [FE,↓FP,seval]); try simp [overlay]) ?_
   intro k hk
   have hlt1 := hlt (a * 4 + k)
   have hp12 : 2 ^ (a * 4 + k) ≤ 2 ^ 12 := Nat.pow_le_pow_right (by decide) (by omega)
   have hsu1 := hsu (a * 4 + k)
   have hcb2 := hcb1 k
   have hfit2 := hfit1 k hal
   have hcut1 := hcut k
   rw [Nat.add_assoc] at hsu1
   by_cases hkl : k < f.length
   ·have hfit3 := hfit2 (by omega)
    rw [show (a * 4 + k) % 4 = k by omega,show (a * 4 + k) / 4 = a by omega,decide_eq_true (show k < b.harb.letters.length by omega),Bool.true_and,hcf] at hcb2
    have hcut2 := hcut1 hkl
    generalize hW : f[k]! = W at *
    simp(maxSteps:=9^9)only[↓VX,VQ,seval,↓ixVisL,hW]
    repeat'(first|intro _|apply And.intro)
    all_goals try first|omega|(simp only[LL];omega)|exact nlC (by decide) _|exact nbC rfl
    refine ACall.told hfit3 ?_
    rintro r2 m2 ⟨rfl,rfl⟩
    cases hfb : fitsB b a k
    ·rw [hfb,Bool.false_and] at hcb2
     rw [hcb2,if_neg (by decide)] at hsu1
     simp(maxSteps:=9^9)only[↓VX,VQ,seval]
     repeat'(first|intro _|apply And.intro)
     all_goals try first|omega|(simp only[LL];omega)|exact nlC (by decide) _|exact nbC rfl
     (refine ⟨k + 1,by first | omega | (dsimp only; omega),by dsimp only; omega,?_⟩; (simp only [FE,↓FP,seval]); try simp [hsu1])
    ·rw [hfb,Bool.true_and] at hcb2
     simp(maxSteps:=9^9)only[↓VX,VQ,seval]
     repeat'(first|intro _|apply And.intro)
     all_goals try first|omega|(simp only[LL];omega)|exact nlC (by decide) _|exact nbC rfl
     refine aloop (envCOk _ _ _) (fun i : Nat => ⟨[(0,.v (.ptr bk 0)),(1,.v (.slice 1 (f.map visLA))),(4,.v (.int .i64 (S (a * 4 + k) : Nat))),(5,.v (.fn (.func 37) [.ptr bk 0] [])),(6,.v (.int .i64 a)),(7,.loc 7 0),(8,.v (.int .i64 k)),(18,.v (.mslice bb 0 b.answers.length cap)),(19,.v (.int .i64 b.answers.length)),(20,.v (.int .i64 a)),(25,.v (.slice 1 (f.map visLA))),(26,.v (.int .i64 f.length)),(27,.v (.int .i64 k)),
       (37,.v (.slice 2 (W.map visA))),(38,.v (.int .i64 W.length)),(39,.v (.int .i64 i))],[],
       [(7,[.int .i64 (b.answers[a]!).port,.int .i64 (b.answers[a]!).words,.int .i64 (b.answers[a]!).day])],m2⟩)
      (fun i => i ≤ W.length ∧ ∀ v ∈ W.take i,¬ v.2 ≤ (b.answers[a]!).day - b.back) (fun i => W.length - i) 0 (fun _ => rfl) ⟨by omega,by simp⟩ (by (simp only [FE,↓FP,seval]); try simp) ?_
     rintro i ⟨hi,hno⟩
     by_cases hil : i < W.length
     ·have hvd := hcut2 (W[i]!) (by rw [getD_any hil]; exact List.getElem_mem hil)
      have hmem : W[i]! ∈ W := by rw [getD_any hil]; exact List.getElem_mem hil
      simp(maxSteps:=9^9)only[↓VX,VQ,seval,↓ixVis]
      repeat'(first|intro _|apply And.intro)
      all_goals try first|omega|(simp only[LL];omega)|exact nlC (by decide) _|exact nbC rfl
      have hsh : ((a : Int) * 4 + (k : Int)).toNat = a * 4 + k := by omega
      (refine adraw (by first | exact envOk _ | exact envCOk _ _ _) mixed [⟨false,false,0⟩,⟨false,false,0⟩,⟨false,false,0⟩,⟨false,false,0⟩,⟨false,false,0⟩,⟨false,false,0⟩,⟨false,false,0⟩,⟨false,false,0⟩,⟨false,false,0⟩,⟨false,false,0⟩,⟨false,false,0⟩] (by kernel_rfl) ?_; show vcOpsD _ _ _ (_ :: _) _ _)
      simp(maxSteps:=9^9)only[↓VX,VQ,seval,hbk,hsh]
      repeat'(first|intro _|apply And.intro)
      all_goals try first|omega|(simp only[LL];omega)|exact nlC (by decide) _|exact nbC rfl
      ·have q : (W[i]!).2 ≤ (b.answers[a]!).day - b.back := by assumption
       rw [List.any_eq_true.2 ⟨_,hmem,decide_eq_true q⟩] at hcb2
       rw [hcb2,if_pos rfl] at hsu1
       refine ⟨k + 1,by dsimp only; omega,by dsimp only; omega,?_⟩
       (simp only [FE,↓FP,seval])
       rw [hsu1]
       try simp
      ·have q : ¬ (W[i]!).2 ≤ (b.answers[a]!).day - b.back := by assumption
       refine ⟨i + 1,⟨by omega,forall_take_succ hil hno (by rw [← getD_any hil]; exact q)⟩,by dsimp only; omega,?_⟩
       (simp only [FE,↓FP,seval])
       try simp
     ·have hie : i = W.length := by omega
      subst hie
      rw [List.take_length] at hno
      rw [List.any_eq_false.2 (fun v hv => by rw [decide_eq_true_eq]; exact hno v hv)] at hcb2
      rw [hcb2,if_neg (by decide)] at hsu1
      simp(maxSteps:=9^9)only[↓VX,VQ,seval]
      repeat'(first|intro _|apply And.intro)
      all_goals try first|omega|(simp only[LL];omega)|exact nlC (by decide) _|exact nbC rfl
      (refine ⟨k + 1,by first | omega | (dsimp only; omega),by dsimp only; omega,?_⟩; (simp only [FE,↓FP,seval]); try simp [hsu1])
   ·have hke : k = b.harb.letters.length := by omega
    simp(maxSteps:=9^9)only[↓VX,VQ,seval]
    repeat'(first|intro _|apply And.intro)
    all_goals try first|omega|(simp only[LL];omega)|exact nlC (by decide) _|exact nbC rfl
    rw [hke,hend1]
    (refine ⟨a + 1,by first | omega | (dsimp only; omega),by dsimp only; omega,?_⟩; (simp only [FE,↓FP,seval]); try simp [])
  ·have hae : a = b.answers.length := by omega
   simp(maxSteps:=9^9)only[↓VX,VQ,seval]
   repeat'(first|intro _|apply And.intro)
   all_goals try first|omega|(simp only[LL];omega)|exact nlC (by decide) _|exact nbC rfl
   rw [hcs,hae]; rfl
def ownsC (L : List (List Int)) : List AV := ((L.map ownA).map AV.cells).flatten
theorem own_cells (L : List (List Int)) : ∀ x ∈ L.map ownA,x.cells.length = 3 ∧ x.cells.all flat = true := by
 intro x hx
 obtain ⟨w,_,rfl⟩ := List.mem_map.1 hx
 exact ⟨by simp [ownA,AV.cells,ownE_length],by simp [ownA,AV.cells,flat]⟩
theorem ownE_take (w : List Int) : ((ownE w).map (AV.int .i64)).take 3 = (ownE w).map (AV.int .i64) := List.take_of_length_le (by rw [List.length_map,ownE_length]; omega)
theorem ownE_flat (w : List Int) : ((ownE w).map (AV.int .i64)).all flat = true := by simp [flat]
theorem ownE_mlen (w : List Int) : ((ownE w).map (AV.int .i64)).length = 3 := by rw [List.length_map,ownE_length]
structure OB where
 bk : Nat
 al : Nat
 ob : Nat
 nx : Nat
def onextA (t : OB) (s : Nat) : AV := .fn (.func 48) [] [.eptr [.ptr t.bk 0],.ptr t.al 0,.ptr t.ob 0,.eptr [.int .i64 s],.ptr t.nx 0]
structure OHold (m0 : Mem) (t : OB) (s : Nat) (p : List Int) (L : List (List Int)) (m : Mem) : Prop where
 sub : ∀ k y,m0 k = some y → m k = some y
 al : ∃ wb cap tail,m t.al = some (.cells [.mslice wb 0 L.length cap]) ∧ ((cap = 0 ∧ L = [] ∧ tail = []) ∨ (m wb = some (.cells (ownsC L ++ tail)) ∧ m0 wb = none ∧ wb ≠ t.al ∧ wb ≠ t.ob ∧ wb ≠ t.nx)) ∧ L.length ≤ cap ∧ cap ≤ maxLen ∧ tail.length = (cap - L.length) * 3
 ob : m t.ob = some (.cells ((ownE p).map (AV.int .i64)))
 nx : m t.nx = some (.cells [onextA t s])
structure OB.Ok (t : OB) (m0 : Mem) : Prop where
 al : m0 t.al = none
 ob : m0 t.ob = none
 nx : m0 t.nx = none
 ao : t.al ≠ t.ob
 an : t.al ≠ t.nx
 on : t.ob ≠ t.nx
theorem onext_leaf (b : RBook) (_hb : BOk b) (A F K : AV) (least : Int) (m0 : Mem) (t : OB) (ht : t.Ok m0) (s : Nat) (hbk : m0 t.bk = some (.cells (bookC b A F K least))) (hA : AnsIn b.answers A m0) (p : List Int) (hp : p.length = b.answers.length)
  (used : Nat) (L : List (List Int)) (hL : L.length ≤ 1000) (m : Mem) (hm : OHold m0 t s p L m) :
  ACall Try.prog 48 [.int .i64 p.length,.int .i64 used,.eptr [.ptr t.bk 0],.ptr t.al 0,.ptr t.ob 0,.eptr [.int .i64 s],.ptr t.nx 0] m fun _ m' => OHold m0 t s p (L ++ [p]) m' := by
 have hbk1 := hm.sub _ _ hbk
 obtain ⟨wb,cap,tail,g1,g2,g3,g4,g5⟩ := hm.al
 have go := hm.ob
 have gn := hm.nx
 have hol := ownE_length p
 obtain ⟨q1,q2,q3,q4,q5,q6⟩ := ht
 have e0 : ((p.length : Int) = (b.answers.length : Int)) = True := by simp; omega
 have hlen : ∃ B : AV,AnsIn b.answers B m0 ∧ B = A := ⟨A,hA,rfl⟩
 have hes := own_cells L
 simp only [bookC,harbL,ints,List.cons_append,List.nil_append] at *
 rcases hA with rfl | ⟨bb,acap,atail,rfl,hbb,hcap⟩
 all_goals
  (refine acall_intro (E := envC (modeAt [] []) false [1]) (envCOk _ _ _) rfl Try.func48 rfl Try.call48 (by kernel_rfl) (by simp [Try.ntmps48]) ?_; simp only [Try.f48];  simp(maxSteps:=9^9)only[↓VX,VQ,seval,hbk1,e0])
  repeat'(first|intro _|apply And.intro)
  all_goals try first|omega|(simp only[LL];omega)|exact nlC (by decide) _|exact nbC rfl
 all_goals
  refine acut_at_k 3 (envCOk _ _ _) (V := vcAppG _) (fun h hd _ _ _ hi hf hs _ _ _ hn => vcAppG_sound (envCOk _ _ _) h hd hi hf hs hn) rfl rfl (fun (x : Mem) => ⟨[(0,.v (.int .i64 p.length))],[],[],x⟩) (fun x => OHold m0 t s p (L ++ [p]) x) (fun _ => rfl) ?_ ?_
  ·show vcOps _ _ (_ :: _) _ _
   simp(maxSteps:=9^9)only[↓VX,VQ,seval,g1,go,List.take_succ_cons,List.take_zero,vcAppG,vcAppE,ownE_take p,ownE_flat p,ownE_mlen p,vcSome]
   refine ⟨L.map ownA,tail,?_,⟨?_,?_,?_,?_,?_⟩,?_,?_⟩
   ·rcases g2 with ⟨rfl,rfl,rfl⟩ | ⟨g2,_⟩
    ·exact .inl ⟨rfl,rfl,rfl⟩
    ·exact .inr g2
   ·rw [List.length_map]
   ·exact g3
   ·exact g4
   ·exact g5
   ·exact ⟨hes,by rw [List.length_map]; omega⟩
   ·rw [List.length_map]
    intro hc
    rcases g2 with ⟨rfl,_,_⟩ | ⟨g2,w1,w2,w3,w4⟩
    ·omega
    rw [if_neg w2.symm]
    refine ⟨by simp,upd (upd m wb (some (.cells (ownsC (L ++ [p]) ++ tail.drop 3)))) t.al (some (.cells [.mslice wb 0 (L.length + 1) cap])),⟨fun k y hy => ?_,⟨wb,cap,tail.drop 3,?_,.inr ⟨?_,w1,w2,w3,w4⟩,?_,g4,?_⟩,?_,?_⟩,?_⟩
    ·have h1 : k ≠ t.al := fun e => by rw [e,q1] at hy; cases hy
     have h2 : k ≠ wb := fun e => by rw [e,w1] at hy; cases hy
     rw [upd_ne _ _ h1,upd_ne _ _ h2]; exact hm.sub _ _ hy
    ·rw [upd_same,List.length_append]; rfl
    ·rw [upd_ne _ _ w2,upd_same]
    ·rw [List.length_append]; exact hc
    ·rw [List.length_drop,List.length_append,g5,List.length_cons,List.length_nil]; omega
    ·rw [upd_ne _ _ q4.symm,upd_ne _ _ w3.symm]; exact go
    ·rw [upd_ne _ _ q5.symm,upd_ne _ _ w4.symm]; exact gn
    ·(simp only [FE,↓FP,seval])
     try simp [ownsC,ownA,AV.cells]
   ·rw [List.length_map]
    intro hc b' cap' tail' n1 n2 n3 n4
    have w1 : m0 b' = none := by
     cases hx : m0 b' with
     | none => rfl
     | some y => rw [hm.sub _ _ hx] at n1; cases n1
    have w2 : b' ≠ t.al := fun e => by rw [e,g1] at n1; cases n1
    have w3 : b' ≠ t.ob := fun e => by rw [e,go] at n1; cases n1
    have w4 : b' ≠ t.nx := fun e => by rw [e,gn] at n1; cases n1
    rw [if_neg w2.symm]
    refine ⟨by simp,upd (upd m b' (some (.cells (ownsC (L ++ [p]) ++ tail')))) t.al (some (.cells [.mslice b' 0 (L.length + 1) cap'])),⟨fun k y hy => ?_,⟨b',cap',tail',?_,.inr ⟨?_,w1,w2,w3,w4⟩,?_,n3,?_⟩,?_,?_⟩,?_⟩
    ·have h1 : k ≠ t.al := fun e => by rw [e,q1] at hy; cases hy
     have h2 : k ≠ b' := fun e => by rw [e,w1] at hy; cases hy
     rw [upd_ne _ _ h1,upd_ne _ _ h2]; exact hm.sub _ _ hy
    ·rw [upd_same,List.length_append]; rfl
    ·rw [upd_ne _ _ w2,upd_same]
    ·rw [List.length_append]; exact n2
    ·rw [n4,List.length_append]; rfl
    ·rw [upd_ne _ _ q4.symm,upd_ne _ _ w3.symm]; exact go
    ·rw [upd_ne _ _ q5.symm,upd_ne _ _ w4.symm]; exact gn
    ·(simp only [FE,↓FP,seval])
     try simp [ownsC,ownA,AV.cells]
  ·intro x hx
   simp(maxSteps:=9^9)only[↓VX,VQ,seval]
   exact hx
theorem own_over (p : List Int) (x y : Int) (h : p.length < 3) : ((ownE (p ++ [x])).map (AV.int .i64)).take p.length ++ [.int .i64 (y + 1)] ++ ((ownE (p ++ [x])).map (AV.int .i64)).drop (p.length + 1) = (ownE (p ++ [y])).map (AV.int .i64) := by
 have := overlay_set (ownE (p ++ [x])) p.length (y + 1) (by rw [ownE_length]; exact h)
 rw [ownE_set] at this
 exact this
theorem OHold.put {m0 : Mem} {t : OB} (ht : t.Ok m0) {s : Nat} {p : List Int} {x y : Int} {L : List (List Int)} {m : Mem} (hm : OHold m0 t s (p ++ [x]) L m) : OHold m0 t s (p ++ [y]) L (upd m t.ob (some (.cells ((ownE (p ++ [y])).map (AV.int .i64))))) := by
 obtain ⟨wb,cap,tail,g1,g2,g3,g4,g5⟩ := hm.al
 refine ⟨fun k z hk => ?_,⟨wb,cap,tail,?_,?_,g3,g4,g5⟩,upd_same _ _ _,?_⟩
 ·have h1 : k ≠ t.ob := fun e => by rw [e,ht.ob] at hk; cases hk
  rw [upd_ne _ _ h1]; exact hm.sub _ _ hk
 ·rw [upd_ne _ _ ht.ao]; exact g1
 ·rcases g2 with g2 | ⟨g2,w1,w2,w3,w4⟩
  ·exact .inl g2
  ·exact .inr ⟨by rw [upd_ne _ _ w3]; exact g2,w1,w2,w3,w4⟩
 ·rw [upd_ne _ _ ht.on.symm]; exact hm.nx
theorem OHold.stray {m0 : Mem} {t : OB} {s : Nat} {p : List Int} {L : List (List Int)} {m : Mem} : OHold m0 t s (p ++ [-1]) L m ↔ OHold m0 t s p L m :=
 ⟨fun h => ⟨h.sub,h.al,by have := h.ob; rw [ownE_stray] at this; exact this,h.nx⟩,fun h => ⟨h.sub,h.al,by have := h.ob; rw [ownE_stray]; exact this,h.nx⟩⟩
theorem onext_c (b : RBook) (hb : BOk b) (A F K : AV) (least : Int) (m0 : Mem) (t : OB) (ht : t.Ok m0) (s : Nat) (hs : s < 2 ^ 12) (hbk : m0 t.bk = some (.cells (bookC b A F K least))) (hA : AnsIn b.answers A m0) :
  ∀ (r : Nat) (p : List Int),p.length + r = b.answers.length → ∀ (used : Nat),used < 2 ^ 4 → (∀ k,k < b.harb.letters.length → used.testBit k = decide ((k : Int) ∈ p)) → ∀ (L : List (List Int)) (m : Mem),L.length + (waysD s b.harb.letters.length r p).length ≤ 1000 → OHold m0 t s p L m →
  ACall Try.prog 48 [.int .i64 p.length,.int .i64 used,.eptr [.ptr t.bk 0],.ptr t.al 0,.ptr t.ob 0,.eptr [.int .i64 s],.ptr t.nx 0] m fun _ m' => OHold m0 t s p (L ++ waysD s b.harb.letters.length r p) m'
 | 0,p,hp,used,hu,hus,L,m,hL,hm => by
  have : waysD s b.harb.letters.length 0 p = [p] := rfl
  rw [this]
  rw [this] at hL
  exact onext_leaf b hb A F K least m0 t ht s hbk hA p (by omega) used L (by simp at hL; omega) m hm
 | r + 1,p,hp,used,hu,hus,L,m,hL,hm => by
  have ih := onext_c b hb A F K least m0 t ht s hs hbk hA r
  have hbk1 := hm.sub _ _ hbk
  have hol := ownE_mlen
  have hpn : p.length < b.answers.length := by omega
  have hna := hb.n
  have hw := hb.w
  have hnl := hb.h.nl
  have e0 : ((p.length : Int) = (b.answers.length : Int)) = False := by simp; omega
  have hks := waysK_succ s b.harb.letters.length r p
  have hwc : waysD s b.harb.letters.length (r + 1) p = waysK s b.harb.letters.length r p b.harb.letters.length ++ waysD s b.harb.letters.length r (p ++ [-1]) := rfl
  have hov := fun x y => own_over p x y (by omega)
  have hnxt : onextA t s = .fn (.func 48) [] [.eptr [.ptr t.bk 0],.ptr t.al 0,.ptr t.ob 0,.eptr [.int .i64 s],.ptr t.nx 0] := rfl
  have hkl : ∀ k,k ≤ b.harb.letters.length → (waysK s b.harb.letters.length r p k).length ≤ (waysK s b.harb.letters.length r p b.harb.letters.length).length := by
   have key : ∀ d k,(waysK s b.harb.letters.length r p k).length ≤ (waysK s b.harb.letters.length r p (k + d)).length := by
    intro d
    induction d with
    | zero => intro k; exact Nat.le_refl _
    | succ d ihd => intro k; rw [← Nat.add_assoc,waysK_succ,List.length_append]; have := ihd k; omega
   intro k hk
   have := key (b.harb.letters.length - k) k
   rw [show k + (b.harb.letters.length - k) = b.harb.letters.length by omega] at this
   exact this
  rw [hwc,List.length_append] at hL
  simp only [bookC,harbL,ints,List.cons_append,List.nil_append] at *
  rcases hA with rfl | ⟨bb,acap,atail,rfl,hbb,hcap⟩
  all_goals
   (refine acall_intro (E := envC (modeAt [] []) false [1]) (envCOk _ _ _) rfl Try.func48 rfl Try.call48 (by kernel_rfl) (by simp [Try.ntmps48]) ?_; simp only [Try.f48];  simp(maxSteps:=9^9)only[↓VX,VQ,seval,hbk1,e0])
   repeat'(first|intro _|apply And.intro)
   all_goals try first|omega|(simp only[LL];omega)|exact nlC (by decide) _|exact nbC rfl
  all_goals
   refine aloop (envCOk _ _ _) (fun x : Nat × Int × Mem => ⟨[(0,.v (.int .i64 p.length)),(1,.v (.int .i64 used)),(2,.v (.eptr [.ptr t.bk 0])),(3,.v (.ptr t.al 0)),(4,.v (.ptr t.ob 0)),(5,.v (.eptr [.int .i64 s])),(6,.v (.ptr t.nx 0)),(27,.v (.int .i64 b.harb.letters.length)),(28,.v (.int .i64 x.1))],[],[],x.2.2⟩)
    (fun x => x.1 ≤ b.harb.letters.length ∧ OHold m0 t s (p ++ [x.2.1]) (L ++ waysK s b.harb.letters.length r p x.1) x.2.2) (fun x => b.harb.letters.length - x.1) (0,-1,m) (fun _ => rfl) ⟨Nat.zero_le _,OHold.stray.2 (by simpa [waysK] using hm)⟩ (by (simp only [FE,↓FP,seval]); rw [hw]; simp) ?_
   rintro ⟨k,y,mk⟩ ⟨hk,hmk⟩
   dsimp only at hk hmk
   have hks1 := hks k
   have hkl1 := hkl k hk
   have hus1 := hus k
   have gn := hmk.nx
   have go := hmk.ob
   have hbk2 := hmk.sub _ _ hbk
   have hfk : freeK s b.harb.letters.length p k = (!decide ((k : Int) ∈ p) && s.testBit (p.length * 4 + k)) := rfl
   have hsh : ((p.length : Int) * 4 + (k : Int)).toNat = p.length * 4 + k := by omega
   by_cases hkn : k < b.harb.letters.length
   ·have hus2 := hus1 hkn
    have hle1 : used / 2 ^ k ≤ used := Nat.div_le_self _ _
    have hle2 : s / 2 ^ (p.length * 4 + k) ≤ s := Nat.div_le_self _ _
    have hp4 : 2 ^ k ≤ 2 ^ 3 := Nat.pow_le_pow_right (by decide) (by omega)
    have hov1 := hov y k
    have hput := hmk.put ht (y := (k : Int))
    cases hu1 : used.testBit k
    ·cases hs1 : s.testBit (p.length * 4 + k)
     ·rw [hs1,Bool.and_false] at hfk
      rw [hfk,if_neg (by decide),List.append_nil] at hks1
      simp(maxSteps:=9^9)only[↓VX,VQ,seval,hu1,hs1,hsh]
      repeat'(first|intro _|apply And.intro)
      all_goals try first|omega|(simp only[LL];omega)|exact nlC (by decide) _|exact nbC rfl
      refine ⟨(k + 1,y,mk),⟨by dsimp only; omega,by dsimp only; rw [hks1]; exact hmk⟩,by dsimp only; omega,?_⟩
      (simp only [FE,↓FP,seval])
      try simp
     ·rw [hs1,Bool.and_true,← hus2,hu1,Bool.not_false] at hfk
      rw [hfk,if_pos rfl] at hks1
      have hkl2 := hkl (k + 1) (by omega)
      rw [hks1,List.length_append] at hkl2
      have hmem : ∀ j,j < b.harb.letters.length → (used ||| 2 ^ k).testBit j = decide ((j : Int) ∈ p ++ [(k : Int)]) := fun j hj => by
       rw [Nat.testBit_or,Nat.testBit_two_pow,hus j hj,← Bool.decide_or,decide_eq_decide,List.mem_append,List.mem_singleton]
       exact or_congr Iff.rfl ⟨fun e => by omega,fun e => by omega⟩
      have hih := ih (p ++ [(k : Int)]) (by simp; omega) (used ||| 2 ^ k) (Nat.or_lt_two_pow hu (Nat.pow_lt_pow_right (by decide) (by omega))) hmem _ _ (by rw [List.length_append]; omega) hput
      rw [show (p ++ [(k : Int)]).length = p.length + 1 by simp,Int.natCast_add,Int.natCast_one] at hih
      have hnx2 := hput.nx
      simp(maxSteps:=9^9)only[↓VX,VQ,seval,hu1,hs1,hsh,go,gn,hov1,hol,ht.on.symm]
      repeat'(first|intro _|apply And.intro)
      all_goals try first|omega|(simp only[LL];omega)|exact nlC (by decide) _|exact nbC rfl
      (refine adraw (by first | exact envOk _ | exact envCOk _ _ _) mixed [⟨false,false,0⟩,⟨false,false,0⟩,⟨false,false,0⟩,⟨false,false,0⟩,⟨false,false,0⟩,⟨false,false,0⟩,⟨false,false,0⟩,⟨false,false,2⟩] (by kernel_rfl) ?_; show vcOpsD _ _ _ (_ :: _) _ _)
      simp(maxSteps:=9^9)only[↓VX,VQ,seval,gn,hnxt,ht.on.symm]
      repeat'(first|intro _|apply And.intro)
      all_goals try first|omega|(simp only[LL];omega)|exact nlC (by decide) _|exact nbC rfl
      refine ACall.told hih ?_
      rintro r2 m2 hm2
      simp(maxSteps:=9^9)only[↓VX,VQ,seval]
      repeat'(first|intro _|apply And.intro)
      all_goals try first|omega|(simp only[LL];omega)|exact nlC (by decide) _|exact nbC rfl
      refine ⟨(k + 1,k,m2),⟨by dsimp only; omega,by dsimp only; rw [hks1,← List.append_assoc]; exact hm2⟩,by dsimp only; omega,?_⟩
      (simp only [FE,↓FP,seval])
      try simp
    ·rw [← hus2,hu1,Bool.not_true,Bool.false_and] at hfk
     rw [hfk,if_neg (by decide),List.append_nil] at hks1
     simp(maxSteps:=9^9)only[↓VX,VQ,seval,hu1,hsh]
     repeat'(first|intro _|apply And.intro)
     all_goals try first|omega|(simp only[LL];omega)|exact nlC (by decide) _|exact nbC rfl
     refine ⟨(k + 1,y,mk),⟨by dsimp only; omega,by dsimp only; rw [hks1]; exact hmk⟩,by dsimp only; omega,?_⟩
     (simp only [FE,↓FP,seval])
     try simp
   ·have hke : k = b.harb.letters.length := by omega
    subst hke
    have hov1 := hov y (-1)
    rw [show (-1 : Int) + 1 = 0 from rfl] at hov1
    have hput := hmk.put ht (y := -1)
    have hnx2 := hput.nx
    have hih := ih (p ++ [-1]) (by simp; omega) used hu (fun j hj => by rw [hus j hj,decide_eq_decide,List.mem_append,List.mem_singleton]; exact ⟨.inl,fun e => e.resolve_right (by omega)⟩) _ _ (by rw [List.length_append]; omega) hput
    rw [show (p ++ [(-1 : Int)]).length = p.length + 1 by simp,Int.natCast_add,Int.natCast_one] at hih
    simp(maxSteps:=9^9)only[↓VX,VQ,seval,go,gn,hov1,hol,hnxt,ht.on.symm]
    repeat'(first|intro _|apply And.intro)
    all_goals try first|omega|(simp only[LL];omega)|exact nlC (by decide) _|exact nbC rfl
    refine ACall.told hih ?_
    rintro r2 m2 hm2
    simp(maxSteps:=9^9)only[↓VX,VQ,seval]
    rw [hwc,← List.append_assoc]
    exact OHold.stray.1 hm2
def EntryOk (n nl : Nat) (m : Mem) (e : AV × AV) : Prop := ∃ (s wb cap : Nat) (tail : List AV),e = (.int .i64 (s : Nat),.mslice wb 0 (waysS n nl s).length cap) ∧ m wb = some (.cells (ownsC (waysS n nl s) ++ tail)) ∧ (waysS n nl s).length ≤ cap
def KnownO (n nl : Nat) (kv : List (AV × AV)) (m : Mem) : Prop := ∀ e ∈ kv,EntryOk n nl m e
theorem mfind_cases (s : Int) : ∀ (kv : List (AV × AV)),(∀ e ∈ kv,∃ a x,e = (.int .i64 a,x)) → ((∀ x,(AV.int .i64 s,x) ∉ kv) ∧ mfind (.int .i64 s) kv = some none) ∨ ∃ x,(AV.int .i64 s,x) ∈ kv ∧ mfind (.int .i64 s) kv = some (some x)
 | [],_ => .inl ⟨by simp,rfl⟩
 | e :: kv,h => by
  obtain ⟨a,x,rfl⟩ := h e (by simp)
  by_cases q : a = s
  ·subst q
   exact .inr ⟨x,by simp,by unfold mfind; simp⟩
  ·have hm : mfind (.int .i64 s) ((.int .i64 a,x) :: kv) = mfind (.int .i64 s) kv := by
    conv => lhs; unfold mfind
    simp only [if_true,if_neg q]
   rw [hm]
   rcases mfind_cases s kv fun e he => h e (List.mem_cons_of_mem _ he) with ⟨h1,h2⟩ | ⟨y,h1,h2⟩
   ·refine .inl ⟨fun y hy => ?_,h2⟩
    rcases List.mem_cons.1 hy with e1 | e1
    ·simp only [Prod.mk.injEq,AV.int.injEq,true_and] at e1
     exact q e1.1.symm
    ·exact h1 y e1
   ·exact .inr ⟨y,List.mem_cons_of_mem _ h1,h2⟩
theorem waysD_ne (s nl : Nat) : ∀ (r : Nat) (p : List Int),waysD s nl r p ≠ []
 | 0,p => by simp [waysD]
 | r + 1,p => by
  rw [waysD_cons]
  intro h
  exact waysD_ne s nl r _ (List.append_eq_nil_iff.1 h).2
theorem KnownO.keeps {n nl : Nat} {kv : List (AV × AV)} {m m' : Mem} (h : KnownO n nl kv m) (hs : ∀ k l,m k = some (.cells l) → m' k = some (.cells l)) : KnownO n nl kv m' := fun e he => by
 obtain ⟨s,wb,cap,tail,h1,h2,h3⟩ := h e he
 exact ⟨s,wb,cap,tail,h1,hs _ _ h2,h3⟩
theorem owns_c (b : RBook) (hb : BOk b) (f : List (List (Int × Int))) (hf : FateOk b.harb f) (A F : AV) (least : Int) (bk km : Nat) (kv : List (AV × AV)) (m : Mem) (hbk : m bk = some (.cells (bookC b A F (.map km) least))) (hA : AnsIn b.answers A m)
  (hkm : m km = some (.map kv)) (hkn : KnownO b.answers.length b.harb.letters.length kv m) (L : List (List Int)) (hL : L = waysS b.answers.length b.harb.letters.length (canS b f)) (hLn : L.length ≤ 1000) :
  ACall Try.prog 39 [.ptr bk 0,fateFA f] m fun r m' => ∃ wb cap tail kv',r = .mslice wb 0 L.length cap ∧ m' wb = some (.cells (ownsC L ++ tail)) ∧ L.length ≤ cap ∧ m' km = some (.map kv') ∧ KnownO b.answers.length b.harb.letters.length kv' m' ∧
   Keeps (fun k => k = km) m m' ∧ (∀ e ∈ kv,e ∈ kv') ∧ (AV.int .i64 (canS b f : Nat),r) ∈ kv' ∧ ((∃ x,(AV.int .i64 (canS b f : Nat),x) ∈ kv) → m' = m) := by
 have hna := hb.n
 have hcan := can_c b hb f hf A F (.map km) least bk m hbk hA
 have hslt : canS b f < 2 ^ 12 := by
  have := setOf_lt (canBit b f) (4 * b.answers.length)
  exact Nat.lt_of_lt_of_le this (Nat.pow_le_pow_right (by decide) (by omega))
 have hcase := mfind_cases (canS b f : Nat) kv fun e he => by
  obtain ⟨s,wb,cap,tail,h1,_,_⟩ := hkn e he
  exact ⟨_,_,h1⟩
 have hnext := fun (t : OB) (ht : t.Ok m) (e : t.bk = bk) => onext_c b hb A F (.map km) least m t ht (canS b f) hslt (by rw [e]; exact hbk) hA b.answers.length [] (by simp) 0 (by decide) (fun k _ => by simp) []
 simp only [List.length_nil,Nat.zero_add,Int.natCast_zero,List.nil_append] at hnext
 rw [show waysD (canS b f) b.harb.letters.length b.answers.length [] = L from hL.symm] at hnext
 have hent : ∀ x,(AV.int .i64 (canS b f : Nat),x) ∈ kv → ∃ wb cap tail,x = .mslice wb 0 L.length cap ∧ m wb = some (.cells (ownsC L ++ tail)) ∧ L.length ≤ cap := fun x hx => by
  obtain ⟨s,wb,cap,tail,h1,h2,h3⟩ := hkn _ hx
  simp only [Prod.mk.injEq,AV.int.injEq,true_and] at h1
  have : s = canS b f := by omega
  subst this
  rw [← hL] at h1 h2 h3
  exact ⟨wb,cap,tail,h1.2,h2,h3⟩
 generalize hS : canS b f = s at *
 simp only [bookC,harbL,ints,onextA,List.cons_append,List.nil_append] at *
 rcases hcase with ⟨hn1,hn2⟩ | ⟨x,hx1,hx2⟩
 ·(refine acall_intro (E := envC (modeAt [5] [8,9,10]) false []) (envCOk _ _ _) rfl Try.func39 rfl Try.call39 (by kernel_rfl) (by simp [Try.ntmps39]) ?_; simp only [Try.f39];  simp(maxSteps:=9^9)only[↓VX,VQ,seval,hbk])
  repeat'(first|intro _|apply And.intro)
  all_goals try first|omega|(simp only[LL];omega)|exact nlC (by decide) _|exact nbC rfl
  refine ACall.told hcan ?_
  rintro r1 m1 ⟨rfl,rfl⟩
  simp(maxSteps:=9^9)only[↓VX,VQ,seval]
  repeat'(first|intro _|apply And.intro)
  all_goals try first|omega|(simp only[LL];omega)|exact nlC (by decide) _|exact nbC rfl
  (refine adraw (by first | exact envOk _ | exact envCOk _ _ _) mixed [⟨false,false,0⟩,⟨false,false,0⟩,⟨false,false,0⟩,⟨false,false,0⟩,⟨false,false,0⟩,⟨false,false,0⟩,⟨false,false,0⟩,⟨false,false,0⟩,⟨false,false,0⟩,⟨false,false,0⟩,⟨false,false,0⟩] (by kernel_rfl) ?_; show vcOpsD _ _ _ (_ :: _) _ _)
  simp(maxSteps:=9^9)only[↓VX,VQ,seval,hbk,hkm,hn2,isIntKey]
  repeat'(first|intro _|apply And.intro)
  all_goals try first|omega|(simp only[LL];omega)|exact nlC (by decide) _|exact nbC rfl
  rename_i al hal ob hob nx hnx
  have nao : al ≠ ob := by rintro rfl; simp at hob
  have hob0 : m1 ob = none := by simpa [nao.symm] using hob
  have nan : al ≠ nx := by rintro rfl; simp [nao] at hnx
  have non : ob ≠ nx := by rintro rfl; simp at hnx
  have hnx0 : m1 nx = none := by simpa [nan.symm,non.symm] using hnx
  have ht : OB.Ok ⟨bk,al,ob,nx⟩ m1 := ⟨hal,hob0,hnx0,nao,nan,non⟩
  have hdom : ∀ k y,m1 k = some y → k ≠ al ∧ k ≠ ob ∧ k ≠ nx := fun k y hy => ⟨ne_of_some hy hal,ne_of_some hy hob0,ne_of_some hy hnx0⟩
  refine ACall.told (hnext ⟨bk,al,ob,nx⟩ ht rfl _ hLn ?_) ?_
  ·refine ⟨fun k y hy => ?_,⟨0,0,[],?_,.inl ⟨rfl,rfl,rfl⟩,?_,?_,?_⟩,?_,?_⟩
   ·obtain ⟨d1,d2,d3⟩ := hdom k y hy
    simp only [upd,if_neg d1,if_neg d2,if_neg d3]; exact hy
   ·simp [upd,nan,nao]
   ·simp
   ·decide
   ·simp
   ·simp [upd,non,ownE_nil]
   ·simp [upd,onextA]
  rintro r2 m2 ⟨g1,⟨wb,cap,tail,g2,g3,g4,g5,g6⟩,g7,g8⟩
  have hbk2 := g1 _ _ hbk
  have hkm2 := g1 _ _ hkm
  obtain ⟨g3,w1,w2,w3,w4⟩ := g3.resolve_left fun w => by
   have := w.2.1
   rw [hL] at this
   exact waysD_ne _ _ _ _ this
  dsimp only at g2 g3 w2 w3 w4
  have hne : wb ≠ km := fun e => by rw [e,hkm2] at g3; cases g3
  have hak : al ≠ km := fun e => by rw [← e,hal] at hkm; cases hkm
  have hbkm : bk ≠ km := fun e => by rw [e,hkm2] at hbk2; cases hbk2
  simp(maxSteps:=9^9)only[↓VX,VQ,seval,g2]
  (refine adraw (by first | exact envOk _ | exact envCOk _ _ _) mixed [⟨false,false,0⟩,⟨false,false,0⟩,⟨false,false,0⟩,⟨false,false,0⟩,⟨false,false,0⟩,⟨false,false,0⟩,⟨false,false,0⟩] (by kernel_rfl) ?_; show vcOpsD _ _ _ (_ :: _) _ _)
  simp(maxSteps:=9^9)only[↓VX,VQ,seval,g2,hbk2,hkm2,hn2,isIntKey,hak,hak.symm]
  repeat'(first|intro _|apply And.intro)
  all_goals try first|omega|(simp only[LL];omega)|exact nlC (by decide) _|exact nbC rfl
  refine ⟨wb,cap,tail,kv ++ [(.int .i64 (s : Nat),.mslice wb 0 L.length cap)],rfl,?_,g4,?_,?_,⟨fun k y hk hy => ?_⟩,fun e he => List.mem_append.2 (.inl he),List.mem_append.2 (.inr (List.mem_singleton.2 rfl)),fun ⟨x,hx⟩ => absurd hx (hn1 x)⟩
  ·simp only [upd,if_neg hne]; exact g3
  ·simp [upd]
  ·intro e he
   rcases List.mem_append.1 he with he | he
   ·obtain ⟨s',wb',cap',tail',h1,h2,h3⟩ := hkn e he
    have h2' := g1 _ _ h2
    have hne' : wb' ≠ km := fun e => by rw [e,hkm2] at h2'; cases h2'
    exact ⟨s',wb',cap',tail',h1,by simp only [upd,if_neg hne']; exact h2',h3⟩
   ·rw [List.mem_singleton] at he
    exact ⟨s,wb,cap,tail,by rw [he,← hL],by rw [← hL]; simp only [upd,if_neg hne]; exact g3,by rw [← hL]; exact g4⟩
  ·rw [upd_ne _ _ hk]; exact g1 _ _ hy
 ·obtain ⟨wb,cap,tail,rfl,w2,w3⟩ := hent x hx1
  (refine acall_intro (E := envC (modeAt [5] [8,9,10]) false []) (envCOk _ _ _) rfl Try.func39 rfl Try.call39 (by kernel_rfl) (by simp [Try.ntmps39]) ?_; simp only [Try.f39];  simp(maxSteps:=9^9)only[↓VX,VQ,seval,hbk])
  repeat'(first|intro _|apply And.intro)
  all_goals try first|omega|(simp only[LL];omega)|exact nlC (by decide) _|exact nbC rfl
  refine ACall.told hcan ?_
  rintro r1 m1 ⟨rfl,rfl⟩
  simp(maxSteps:=9^9)only[↓VX,VQ,seval]
  repeat'(first|intro _|apply And.intro)
  all_goals try first|omega|(simp only[LL];omega)|exact nlC (by decide) _|exact nbC rfl
  (refine adraw (by first | exact envOk _ | exact envCOk _ _ _) mixed [⟨false,false,0⟩,⟨false,false,0⟩,⟨false,false,0⟩,⟨false,false,0⟩,⟨false,false,0⟩,⟨false,false,0⟩,⟨false,false,0⟩,⟨false,false,0⟩,⟨false,false,0⟩,⟨false,false,0⟩,⟨false,false,0⟩] (by kernel_rfl) ?_; show vcOpsD _ _ _ (_ :: _) _ _)
  simp(maxSteps:=9^9)only[↓VX,VQ,seval,hbk,hkm,hx2,isIntKey]
  repeat'(first|intro _|apply And.intro)
  all_goals try first|omega|(simp only[LL];omega)|exact nlC (by decide) _|exact nbC rfl
  exact ⟨wb,cap,tail,kv,rfl,w2,w3,by first | rfl | exact hkm,hkn,Keeps.refl _ _,fun e he => he,hx1,by first | exact fun _ => rfl | exact fun _ => trivial⟩
end Go.Proofs.Ytikodjpbknneoaa.Abs
