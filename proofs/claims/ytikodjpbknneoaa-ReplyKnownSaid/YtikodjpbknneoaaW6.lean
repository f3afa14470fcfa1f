/- Lemmas for the statements of this seat (W6): they hold without conditions beyond those that each one states. -/
import Derived.Test.YtikodjpbknneoaaW5
import Derived.Test.YtikodjpbknneoaaW2
/- Contracts: the reference's checks of a harbour. -/
namespace Go.Proofs.Ytikodjpbknneoaa.Abs
set_option linter.unusedSimpArgs false
open Go Go.RowKit Go.Proofs
set_option maxHeartbeats 4000000
set_option maxRecDepth 100000
theorem ixShip (l : List RShip) (i : Int) (K : AV → Prop) : VIdx (l.map shipA) i K ↔ (0 ≤ i ∧ i.toNat < l.length) ∧ K (.agg [.str (l[i.toNat]!).name,.int .i64 (l[i.toNat]!).sails,.slice 2 ((l[i.toNat]!).calls.map callA),.int .i64 (l[i.toNat]!).lo,.int .i64 (l[i.toNat]!).hi]) := VIdx_map shipA l i K
theorem ixCall (l : List RCall) (i : Int) (K : AV → Prop) : VIdx (l.map callA) i K ↔ (0 ≤ i ∧ i.toNat < l.length) ∧ K (.agg [.int .i64 (l[i.toNat]!).port,.int .i64 (l[i.toNat]!).after]) := VIdx_map callA l i K
theorem ixLet (l : List RLet) (i : Int) (K : AV → Prop) : VIdx (l.map letA) i K ↔ (0 ≤ i ∧ i.toNat < l.length) ∧ K (.agg [.int .i64 (l[i.toNat]!).port,.int .i64 (l[i.toNat]!).day,.int .i64 (l[i.toNat]!).ship]) := VIdx_map letA l i K
theorem ixRep (l : List RRep) (i : Int) (K : AV → Prop) : VIdx (l.map repA) i K ↔ (0 ≤ i ∧ i.toNat < l.length) ∧ K (.agg [.int .i64 (l[i.toNat]!).kind,.int .i64 (l[i.toNat]!).of_,.int .i64 (l[i.toNat]!).port,.int .i64 (l[i.toNat]!).day]) := VIdx_map repA l i K
theorem VX : type_of% (And.intro VP <| And.intro @ixShip <| And.intro @ixCall <| And.intro @ixLet @ixRep) := And.intro VP <| And.intro @ixShip <| And.intro @ixCall <| And.intro @ixLet @ixRep
structure SOk (ports : Int) (s : RShip) : Prop where
 sails : 0 ≤ s.sails ∧ s.sails ≤ 20
 late : 0 ≤ s.lo ∧ s.lo ≤ s.hi ∧ s.hi ≤ 3
 n : s.calls.length ≤ 3
 call : ∀ i (_ : i < s.calls.length),(0 ≤ (s.calls[i]!).port ∧ (s.calls[i]!).port ≤ ports - 1) ∧ (1 ≤ (s.calls[i]!).after ∧ (s.calls[i]!).after ≤ 20) ∧ atC s.calls (s.calls[i]!).port = i
structure HOk (h : RHarb) : Prop where
 p : 1 ≤ h.ports ∧ h.ports ≤ 4
 l : 0 ≤ h.lost ∧ h.lost ≤ 3
 n : h.ships.length ≤ 3
 ship : ∀ i (_ : i < h.ships.length),SOk h.ports (h.ships[i]!)
 nl : h.letters.length ≤ 4
 letter : ∀ i (_ : i < h.letters.length),(0 ≤ (h.letters[i]!).port ∧ (h.letters[i]!).port ≤ h.ports - 1) ∧ (0 ≤ (h.letters[i]!).day ∧ (h.letters[i]!).day ≤ 20) ∧ (-1 ≤ (h.letters[i]!).ship ∧ (h.letters[i]!).ship ≤ (h.ships.length : Int) - 1)
 nr : h.reports.length ≤ 5
 report : ∀ i (_ : i < h.reports.length),(0 ≤ (h.reports[i]!).kind ∧ (h.reports[i]!).kind ≤ 3) ∧ (0 ≤ (h.reports[i]!).of_ ∧ (h.reports[i]!).of_ ≤ ((if (h.reports[i]!).kind < 2 then (h.ships.length : Int) else h.letters.length) - 1)) ∧
  (0 ≤ (h.reports[i]!).port ∧ (h.reports[i]!).port ≤ h.ports - 1) ∧ (0 ≤ (h.reports[i]!).day ∧ (h.reports[i]!).day ≤ 60)
theorem checkH_parts {h : RHarb} (e : (checkH h).2.2 = 0) : (offP 1 4 h.ports || offP 0 3 h.lost) = false ∧ h.ships.length ≤ 3 ∧ (shipsE h).2 = 0 ∧ h.letters.length ≤ 4 ∧ (lettersE h).2 = 0 ∧ h.reports.length ≤ 5 ∧ (reportsE h).2 = 0 := by
 unfold checkH at e
 split at e
 ·cases e
 ·rename_i h1
  split at e
  ·cases e
  ·rename_i h2
   split at e
   ·rename_i h3; exact absurd e h3
   ·rename_i h3
    split at e
    ·cases e
    ·rename_i h4
     split at e
     ·rename_i h5; exact absurd e h5
     ·rename_i h5
      split at e
      ·cases e
      ·rename_i h6
       split at e
       ·rename_i h7; exact absurd e h7
       ·rename_i h7
        exact ⟨by simpa using h1,by omega,by simpa using h3,by omega,by simpa using h5,by omega,by simpa using h7⟩
theorem atC_lt {l : List RCall} {i : Nat} (h : i < l.length) : atC l (l[i]!).port ≤ i := by
 unfold atC
 rcases idxL_cases (fun c : RCall => decide (c.port = (l[i]!).port)) l with e | ⟨k,hk,e⟩
 ·rw [e]; omega
 ·rw [e]
  apply Decidable.byContradiction; intro hlt
  have hlt' : i < k := by omega
  have h1 : idxL (fun c : RCall => decide (c.port = (l[i]!).port)) l = i ∨ idxL (fun c : RCall => decide (c.port = (l[i]!).port)) l < i := by
   clear e hlt hlt' hk
   have key : ∀ (l : List RCall) (i : Nat) (p : RCall → Bool) (h : i < l.length),p l[i] = true → idxL p l ≤ i := by
    intro l
    induction l with
    | nil => intro i p h; simp at h
    | cons x l ih =>
     intro i p h hp
     unfold idxL
     by_cases hx : p x = true
     ·rw [if_pos hx]; omega
     ·cases i with
      | zero => simp at hp; exact absurd hp hx
      | succ i =>
       have := ih i p (by simpa using h) (by simpa using hp)
       rw [if_neg hx]
       split
       ·omega
       ·omega
   have := key l i (fun c : RCall => decide (c.port = (l[i]!).port)) h (by rw [← getD_any h]; exact decide_eq_true rfl)
   omega
  omega
theorem sok_fit {ports : Int} {s : RShip} (e : fitE ports s = 0) : SOk ports s := by
 unfold fitE at e
 split at e
 ·cases e
 ·rename_i h1
  split at e
  ·cases e
  ·rename_i h2
   split at e
   ·cases e
   ·rename_i h3
    rw [failFrom_zero] at e
    simp only [Bool.or_eq_true,not_or,Bool.not_eq_true,offP_false] at h1
    refine ⟨h1.1,⟨h1.2.1.1,by omega,h1.2.2.2⟩,by omega,fun i hi => ?_⟩
    have := e i hi
    rw [← getD_any hi,Nat.zero_add] at this
    unfold callErr at this
    split at this
    ·cases this
    ·rename_i q1
     split at this
     ·cases this
     ·rename_i q2
      split at this
      ·cases this
      ·rename_i q3
       rw [Bool.not_eq_true,offP_false] at q1 q3
       have := atC_lt hi
       exact ⟨q1,q3,by omega⟩
theorem hok_check {h : RHarb} (e : (checkH h).2.2 = 0) : HOk h := by
 obtain ⟨h1,h2,h3,h4,h5,h6,h7⟩ := checkH_parts e
 simp only [Bool.or_eq_false_iff,offP_false] at h1
 unfold shipsE at h3
 unfold lettersE at h5
 unfold reportsE at h7
 rw [failFrom_zero] at h3 h5 h7
 refine ⟨h1.1,h1.2,h2,fun i hi => ?_,h4,fun i hi => ?_,h6,fun i hi => ?_⟩
 ·have := h3 i hi
  rw [← getD_any hi,Nat.zero_add] at this
  unfold shipErr at this
  split at this
  ·split at this
   ·cases this
   ·exact sok_fit this
  ·cases this
 ·have := h5 i hi
  rw [← getD_any hi] at this
  unfold letErr at this
  split at this
  ·cases this
  ·rename_i q1
   split at this
   ·cases this
   ·rename_i q2
    split at this
    ·cases this
    ·rename_i q3
     rw [Bool.not_eq_true,offP_false] at q1 q2 q3
     exact ⟨q1,q2,q3⟩
 ·have := h7 i hi
  rw [← getD_any hi] at this
  unfold repErr at this
  generalize (if (h.reports[i]!).kind < 2 then (h.ships.length : Int) else h.letters.length) = cnt at this ⊢
  split at this
  ·cases this
  ·rename_i q1
   split at this
   ·cases this
   ·rename_i q2
    split at this
    ·cases this
    ·split at this
     ·cases this
     ·rename_i q4
      simp only [Bool.or_eq_true,not_or] at q2
      rw [Bool.not_eq_true,offP_false] at q1 q4
      rw [Bool.not_eq_true,Bool.not_eq_true,offP_false,offP_false] at q2
      exact ⟨q1,q2.1,q2.2,q4⟩
def fleetL (f : Nat → Fate) : List AV := [.int .i64 (f 0).late,.int .i64 (f 0).made,.int .i64 (f 1).late,.int .i64 (f 1).made,.int .i64 (f 2).late,.int .i64 (f 2).made]
def fleetA (f : Nat → Fate) : AV := .agg (fleetL f)
theorem fleet_drop (f : Nat → Fate) {s : Nat} (h : s < 3) : ∃ r,(fleetL f).drop (s * 2) = .int .i64 (f s).late :: .int .i64 (f s).made :: r := by
 have : s = 0 ∨ s = 1 ∨ s = 2 := by omega
 rcases this with rfl | rfl | rfl <;> exact ⟨_,rfl⟩
def lookedL (h : RHarb) (but : Int) (b : Nat) : List AV := [.int .i64 h.ports,.int .i64 h.lost,.slice 5 (h.ships.map shipA),.slice 3 (h.letters.map letA),.slice 4 (h.reports.map repA),
 .fn (.func 85) [] [],.fn (.func 86) [] [],.fn (.func 85) [] [],.fn (.func 86) [] [],.int .i64 but,.map b]
def dayN (h : RHarb) (f : Nat → Fate) (s : Nat) (port : Int) : Int :=
 if atC (h.ships[s]!).calls port < 0 ∨ (f s).made ≤ atC (h.ships[s]!).calls port then 61 else (h.ships[s]!).sails + ((h.ships[s]!).calls[(atC (h.ships[s]!).calls port).toNat]!).after + (f s).late
theorem day_c (h : RHarb) (hh : HOk h) (but : Int) (b : Nat) (f : Nat → Fate) (s : Nat) (port : Int) (hs : s < h.ships.length) (hl : 0 ≤ (f s).late ∧ (f s).late ≤ 3) :
  PCall Try.prog 87 [.eptr (lookedL h but b),fleetA f,.int .i64 s,.int .i64 port] (.int .i64 (dayN h f s port)) := by
 intro m
 have h3 := hh.n
 have hso := hh.ship s hs
 have h1 := at_c (h.ships[s]!) port
 obtain ⟨r,hdr⟩ := fleet_drop f (s := s) (by omega)
 have hcall := hso.call
 have hsa := hso.sails
 have e : dayN h f s port = if atC (h.ships[s]!).calls port < 0 ∨ (f s).made ≤ atC (h.ships[s]!).calls port then 61 else (h.ships[s]!).sails + ((h.ships[s]!).calls[(atC (h.ships[s]!).calls port).toNat]!).after + (f s).late := rfl
 have hat : atC (h.ships[s]!).calls port = -1 ∨ ∃ k,k < (h.ships[s]!).calls.length ∧ atC (h.ships[s]!).calls port = (k : Int) := idxL_cases _ _
 generalize hA : atC (h.ships[s]!).calls port = A at *
 simp only [lookedL,fleetA,fleetL,shipA,shipL] at *
 (refine acall_intro (E := envC (modeAt [9] []) false []) (envCOk _ _ _) rfl Try.func87 rfl Try.call87 (by kernel_rfl) (by simp [Try.ntmps87]) ?_; simp only [Try.f87];  simp(maxSteps:=9^9)only[↓VX,VQ,seval])
 repeat'(first|intro _|apply And.intro)
 all_goals try first|omega|(simp only[LL];omega)|exact nlC (by decide) _|exact nbC rfl
 (refine ACall.pure (h1) ?_; try simp(maxSteps:=9^9)only[↓VX,VQ,seval,GL,↓hdr])
 repeat'(first|intro _|apply And.intro)
 all_goals try first|omega|(simp only[LL];omega)|exact nlC (by decide) _|exact nbC rfl
 ·rw [e,if_pos (.inr (by assumption))]
 ·have q1 : ¬ A < 0 := by assumption
  have q2 : ¬ (f s).made ≤ A := by assumption
  rw [if_neg (by omega)] at e
  obtain ⟨k,hk,hAk⟩ := hat.resolve_left (by omega)
  obtain ⟨c1,c2,_⟩ := hcall k hk
  have hAn : A.toNat = k := by omega
  rw [hAn] at e
  (refine adraw (by first | exact envOk _ | exact envCOk _ _ _) mixed [⟨false,false,0⟩,⟨false,false,0⟩,⟨false,false,0⟩,⟨false,false,0⟩,⟨false,false,0⟩,⟨false,false,0⟩,⟨false,false,0⟩,⟨false,false,0⟩,⟨false,false,0⟩,⟨false,false,0⟩,⟨false,false,0⟩,⟨false,false,0⟩,⟨false,false,0⟩,⟨false,false,0⟩,⟨false,false,0⟩] (by kernel_rfl) ?_; show vcOpsD _ _ _ (_ :: _) _ _)
  simp(maxSteps:=9^9)only[↓VX,VQ,seval,↓hdr,hAn]
  repeat'(first|intro _|apply And.intro)
  all_goals try first|omega|(simp only[LL];omega)|exact nlC (by decide) _|exact nbC rfl
  rw [e]
 ·rw [e,if_pos (.inl (by omega))]
def sinksB (h : RHarb) (f : Nat → Fate) (i : Nat) : Bool := decide ((f i).made < (h.ships[i]!).calls.length)
def lostS (h : RHarb) (f : Nat → Fate) (n : Nat) : Nat := setOf (sinksB h f) n
theorem lost_c (h : RHarb) (hh : HOk h) (but : Int) (b : Nat) (f : Nat → Fate) :
  PCall Try.prog 67 [.eptr (lookedL h but b),fleetA f] (.tuple [.int .i64 (lostS h f h.ships.length),.int .i64 ((List.range h.ships.length).filter (sinksB h f)).length]) := by
 intro m
 have h3 := hh.n
 have hdr := fun s (hs : s < h.ships.length) => fleet_drop f (s := s) (by omega)
 have hlt := fun k => setOf_lt (sinksB h f) k
 simp only [lookedL,fleetA,fleetL] at *
 (refine acall_intro (E := envC (modeAt [7] []) false []) (envCOk _ _ _) rfl Try.func67 rfl Try.call67 (by kernel_rfl) (by simp [Try.ntmps67]) ?_; simp only [Try.f67];  simp(maxSteps:=9^9)only[↓VX,VQ,seval])
 repeat'(first|intro _|apply And.intro)
 all_goals try first|omega|(simp only[LL];omega)|exact nlC (by decide) _|exact nbC rfl
 refine aloop (envCOk _ _ _) (fun k : Nat => ⟨[(3,.v (.eptr [.int .i64 (f 0).late,.int .i64 (f 0).made,.int .i64 (f 1).late,.int .i64 (f 1).made,.int .i64 (f 2).late,.int .i64 (f 2).made])),(4,.v (.int .i64 (setOf (sinksB h f) k))),(5,.v (.int .i64 ((List.range k).filter (sinksB h f)).length)),(12,.v (.slice 5 (h.ships.map shipA))),(13,.v (.int .i64 h.ships.length)),(14,.v (.int .i64 k))],[],[],m⟩)
  (fun k => k ≤ h.ships.length) (fun k => h.ships.length - k) 0 (fun _ => rfl) (by simp) (by (simp only [FE,↓FP,seval]); try simp [setOf]) ?_
 intro k hk
 have hk8 := hlt k
 have hp : 2 ^ k ≤ 2 ^ 3 := Nat.pow_le_pow_right (by decide) (by omega)
 have hcnt : ((List.range k).filter (sinksB h f)).length ≤ k := Nat.le_trans (List.length_filter_le _ _) (by simp)
 have hsucc : (List.range (k + 1)).filter (sinksB h f) = (List.range k).filter (sinksB h f) ++ if sinksB h f k = true then [k] else [] := by
  rw [List.range_succ,List.filter_append]
  by_cases q : sinksB h f k = true <;> simp [q]
 have hsb : sinksB h f k = decide ((f k).made < (h.ships[k]!).calls.length) := rfl
 simp(maxSteps:=9^9)only[↓VX,VQ,seval]
 repeat'(first|intro _|apply And.intro)
 all_goals try first|omega|(simp only[LL];omega)|exact nlC (by decide) _|exact nbC rfl
 ·obtain ⟨r,hd⟩ := hdr k (by omega)
  (refine adraw (by first | exact envOk _ | exact envCOk _ _ _) mixed [⟨false,false,0⟩,⟨false,false,0⟩,⟨false,false,0⟩,⟨false,false,0⟩,⟨false,false,0⟩,⟨false,false,0⟩,⟨false,false,0⟩,⟨false,false,0⟩] (by kernel_rfl) ?_; show vcOpsD _ _ _ (_ :: _) _ _)
  simp(maxSteps:=9^9)only[↓VX,VQ,seval,↓hd]
  repeat'(first|intro _|apply And.intro)
  all_goals try first|omega|(simp only[LL];omega)|exact nlC (by decide) _|exact nbC rfl
  ·have q : sinksB h f k = true := by rw [hsb]; exact decide_eq_true (by assumption)
   rw [if_pos q] at hsucc
   refine ⟨k + 1,by dsimp only; omega,by dsimp only; omega,?_⟩
   (simp only [FE,↓FP,seval])
   rw [hsucc]
   simp [setOf,q]
  ·have q : ¬ sinksB h f k = true := by rw [hsb,decide_eq_true_eq]; assumption
   rw [if_neg q] at hsucc
   refine ⟨k + 1,by dsimp only; omega,by dsimp only; omega,?_⟩
   (simp only [FE,↓FP,seval])
   rw [hsucc]
   simp [setOf,q]
 ·rw [show k = h.ships.length by omega]; rfl
def fateA (x : Fate) : AV := .agg [.int .i64 x.late,.int .i64 x.made]
def dayR (h : RHarb) (l : List Fate) (s : Nat) (port : Int) : Int :=
 if atC (h.ships[s]!).calls port < 0 ∨ (l[s]!).made ≤ atC (h.ships[s]!).calls port then -1 else (h.ships[s]!).sails + ((h.ships[s]!).calls[(atC (h.ships[s]!).calls port).toNat]!).after + (l[s]!).late
def lostL (h : RHarb) (l : List Fate) (n : Nat) : List Int := ((List.range n).filter fun i => decide ((l[i]!).made < (h.ships[i]!).calls.length)).map fun (i : Nat) => (i : Int)
def untilB (a d : Int) : Bool := decide (0 ≤ a) && decide (a ≤ d)
def soB (r : RRep) (d : Int) : Bool := if r.kind = 0 ∨ r.kind = 2 then decide (d = r.day) else !untilB d r.day
def ofB (h : RHarb) (k : Nat) (but : List Int) (i : Nat) : Bool := decide (2 ≤ (h.reports[i]!).kind) && (decide ((h.reports[i]!).of_ = (k : Int)) && decide ((i : Int) ∉ but))
def repsB (h : RHarb) (l : List Fate) (k : Nat) (but : List Int) (s n : Nat) : Bool := (List.range n).all fun i => !ofB h k but i || soB (h.reports[i]!) (dayR h l s (h.letters[k]!).port)
def shipB (h : RHarb) (k s : Nat) : Bool := takesB (h.ships[s]!) (h.letters[k]!).port (h.letters[k]!).day && (decide ((h.letters[k]!).ship = -1) || decide ((h.letters[k]!).ship = (s : Int)))
def canB (h : RHarb) (l : List Fate) (k : Nat) (but : List Int) (s : Nat) : Bool := shipB h k s && repsB h l k but s h.reports.length
def couldL (h : RHarb) (l : List Fate) (k : Nat) (but : List Int) (n : Nat) : List Int := ((List.range n).filter (canB h l k but)).map fun (i : Nat) => (i : Int)
theorem couldL_length (h : RHarb) (l : List Fate) (k : Nat) (but : List Int) (n : Nat) : (couldL h l k but n).length ≤ n := by
 unfold couldL
 rw [List.length_map]
 exact Nat.le_trans (List.length_filter_le _ _) (by simp)
theorem repsB_succ (h : RHarb) (l : List Fate) (k : Nat) (but : List Int) (s n : Nat) : repsB h l k but s (n + 1) = (repsB h l k but s n && (!ofB h k but n || soB (h.reports[n]!) (dayR h l s (h.letters[k]!).port))) := by
 unfold repsB; rw [List.range_succ,List.all_append]; simp
structure FOk (h : RHarb) (l : List Fate) : Prop where
 n : l.length = h.ships.length
 late : ∀ s,s < l.length → 0 ≤ (l[s]!).late ∧ (l[s]!).late ≤ 3
 made : ∀ s,s < l.length → 0 ≤ (l[s]!).made ∧ (l[s]!).made ≤ ((h.ships[s]!).calls.length : Int)
/-! ### Fleet -/
def latesTo (s : RShip) (n : Nat) : List Int := (List.range n).map fun (i : Nat) => s.lo + i
def madesTo (n : Nat) : List Int := (List.range n).map fun (i : Nat) => (i : Int)
def rowR (f : List Fate) (late : Int) (ms : List Int) : List (List Fate) := ms.map fun made => f ++ [Fate.mk late made]
def blockR (f : List Fate) (s : RShip) (ls : List Int) : List (List Fate) := ls.flatMap fun late => rowR f late (madeL s)
theorem fok_len : ∀ {l : List RShip} {f : List Fate},fokB l f = true → f.length = l.length
 | [],[],_ => rfl
 | [],_ :: _,h => by simp [fokB] at h
 | _ :: _,[],h => by simp [fokB] at h
 | _ :: r,_ :: f,h => by
  simp only [fokB,Bool.and_eq_true] at h
  simp [fok_len h.2]
theorem blockR_length (f : List Fate) (s : RShip) : ∀ ls : List Int,(blockR f s ls).length = ls.length * (s.calls.length + 1)
 | [] => by simp [blockR]
 | x :: ls => by
  have := blockR_length f s ls
  unfold blockR at this ⊢
  rw [List.flatMap_cons,List.length_append,this,List.length_cons,Nat.add_mul]
  simp [rowR,madeL]; omega
theorem allR_length {ports : Int} : ∀ (l : List RShip),(∀ i,i < l.length → SOk ports (l[i]!)) → l.length ≤ 3 → (allR l).length ≤ 16 ^ l.length := by
 have key : ∀ (l : List RShip) (out : List (List Fate)),(∀ s ∈ l,SOk ports s) → (l.foldl stepR out).length ≤ out.length * 16 ^ l.length := by
  intro l
  induction l with
  | nil => intro out _; simp
  | cons s l ih =>
   intro out h
   have h1 := ih (stepR out s) (fun x hx => h x (by simp [hx]))
   have hso := h s (by simp)
   have h2 : (stepR out s).length ≤ out.length * 16 := by
    have : ∀ (o : List (List Fate)),(o.flatMap fun f => blockR f s (lateL s)).length ≤ o.length * 16 := by
     intro o
     induction o with
     | nil => simp
     | cons f o iho =>
      rw [List.flatMap_cons,List.length_append,blockR_length,List.length_cons]
      have ha : (lateL s).length ≤ 4 := by
       have := hso.late
       simp [lateL]; omega
      have hb := hso.n
      have hm := Nat.mul_le_mul ha (show s.calls.length + 1 ≤ 4 by omega)
      omega
    exact this out
   rw [List.foldl_cons,List.length_cons,Nat.pow_succ]
   have h3 := Nat.mul_le_mul_right (16 ^ l.length) h2
   calc (l.foldl stepR (stepR out s)).length ≤ (stepR out s).length * 16 ^ l.length := h1
    _ ≤ out.length * 16 * 16 ^ l.length := h3
    _ = out.length * (16 ^ l.length * 16) := by rw [Nat.mul_assoc,Nat.mul_comm 16]
 intro l h _
 have := key l [[]] (fun s hs => by
  obtain ⟨i,hi,rfl⟩ := List.mem_iff_getElem.1 hs
  rw [← getD_any hi]; exact h i hi)
 simpa [allR] using this
theorem latesTo_succ (s : RShip) (n : Nat) : latesTo s (n + 1) = latesTo s n ++ [s.lo + n] := by unfold latesTo; rw [List.range_succ]; simp
theorem madesTo_succ (n : Nat) : madesTo (n + 1) = madesTo n ++ [(n : Int)] := by unfold madesTo; rw [List.range_succ]; simp
structure RTru where
 fleet : List Fate
 by_ : List (List Int)
 deriving Inhabited
def ofS (h : RHarb) (but : List Int) (i : Nat) : Bool := decide ((h.reports[i]!).kind < 2) && decide ((i : Int) ∉ but)
def saidB (h : RHarb) (l : List Fate) (but : List Int) (n : Nat) : Bool := (List.range n).all fun i => !ofS h but i || soB (h.reports[i]!) (dayR h l (h.reports[i]!).of_.toNat (h.reports[i]!).port)
def goB (h : RHarb) (l : List Fate) (but : List Int) (n : Nat) : Bool := (List.range n).all fun k => decide (0 < (couldL h l k but h.ships.length).length)
def byTo (h : RHarb) (l : List Fate) (but : List Int) (n : Nat) : List (List Int) := (List.range n).map fun k => couldL h l k but h.ships.length
def trueB (h : RHarb) (but : List Int) (l : List Fate) : Bool := saidB h l but h.reports.length && goB h l but h.letters.length
def truOf (h : RHarb) (but : List Int) (l : List Fate) : RTru := ⟨l,byTo h l but h.letters.length⟩
def truthsR (h : RHarb) (but : List Int) : List RTru := ((fleetsR h.ships h.lost).filter (trueB h but)).map (truOf h but)
theorem saidB_succ (h : RHarb) (l : List Fate) (but : List Int) (n : Nat) : saidB h l but (n + 1) = (saidB h l but n && (!ofS h but n || soB (h.reports[n]!) (dayR h l (h.reports[n]!).of_.toNat (h.reports[n]!).port))) := by
 unfold saidB; rw [List.range_succ,List.all_append]; simp
theorem goB_succ (h : RHarb) (l : List Fate) (but : List Int) (n : Nat) : goB h l but (n + 1) = (goB h l but n && decide (0 < (couldL h l n but h.ships.length).length)) := by
 unfold goB; rw [List.range_succ,List.all_append]; simp
theorem byTo_length (h : RHarb) (l : List Fate) (but : List Int) (n : Nat) : (byTo h l but n).length = n := by simp [byTo]
theorem fleets_len {h : RHarb} (hh : HOk h) : (fleetsR h.ships h.lost).length ≤ 4096 := by
 unfold fleetsR
 refine Nat.le_trans (List.length_filter_le _ _) ?_
 refine Nat.le_trans (allR_length (ports := h.ports) h.ships hh.ship hh.n) ?_
 exact Nat.pow_le_pow_right (by decide) hh.n
theorem fok_at : ∀ {l : List RShip} {f : List Fate},fokB l f = true → ∀ i,i < l.length → ((l[i]!).lo ≤ (f[i]!).late ∧ (f[i]!).late ≤ (l[i]!).hi) ∧ (0 ≤ (f[i]!).made ∧ (f[i]!).made ≤ ((l[i]!).calls.length : Int))
 | [],_,_,i,hi => by simp at hi
 | _ :: _,[],e,_,_ => by simp [fokB] at e
 | s :: l,x :: f,e,i,hi => by
  simp only [fokB,Bool.and_eq_true,decide_eq_true_eq] at e
  cases i with
  | zero => simpa using ⟨by omega,by omega⟩
  | succ i =>
   have := fok_at (l := l) (f := f) (by simp_all) i (by simpa using hi)
   simpa using this
theorem fok_fok {h : RHarb} (hh : HOk h) {f : List Fate} (e : fokB h.ships f = true) : FOk h f := by
 have hl := fok_len e
 refine ⟨hl,fun s hs => ?_,fun s hs => (fok_at e s (by omega)).2⟩
 have := (fok_at e s (by omega)).1
 have q := (hh.ship s (by omega)).late
 omega
theorem fleets_fok {h : RHarb} (hh : HOk h) {f : List Fate} (e : f ∈ fleetsR h.ships h.lost) : FOk h f := fok_fok hh (mem_fleetsR.1 e).1
def knownR (h : RHarb) (e : Int) : List RTru × Int := if e ≠ 0 then ([],e) else if truthsR h [] = [] then ([],8) else (truthsR h [],0)
theorem truths_len {h : RHarb} (hh : HOk h) (but : List Int) : (truthsR h but).length ≤ 4096 := by
 unfold truthsR
 rw [List.length_map]
 exact Nat.le_trans (List.length_filter_le _ _) (fleets_len hh)
end Go.Proofs.Ytikodjpbknneoaa.Abs
