/- Lemmas for the statements of this seat (X14): they hold without conditions beyond those that each one states. -/
import Derived.Test.YteppmjlfpniiaaaGreatX13
import Derived.Test.YteppmjlfpniiaaaGreatX11
import Derived.Test.YteppmjlfpniiaaaGreatX6
import Derived.Laws.StructEq
import Derived.WideKeyRuns
/- Contracts: Truths. -/
namespace Go.Proofs.YteppmjlfpniiaaaGreat.Abs
set_option linter.unusedSimpArgs false
open Go Go.RowKit Go.Proofs
structure RTru where
 fleet : List Fate
 by_ : List (List Int)
 deriving Inhabited
def ofS (h : RHarb) (but : List Int) (i : Nat) : Bool := decide ((h.reports[i]!).kind < 2) && decide ((i : Int) ∉ but)
def saidB (h : RHarb) (l : List Fate) (but : List Int) (n : Nat) : Bool := (List.range n).all fun i => !ofS h but i || soB (h.reports[i]!) (dayR h l (h.reports[i]!).of_.toNat (h.reports[i]!).port)
def goB (h : RHarb) (l : List Fate) (but : List Int) (n : Nat) : Bool := (List.range n).all fun k => decide (0 < (couldL h l k but h.ships.length).length)
def byTo (h : RHarb) (l : List Fate) (but : List Int) (n : Nat) : List (List Int) := (List.range n).map fun k => couldL h l k but h.ships.length
def trueB (h : RHarb) (but : List Int) (l : List Fate) : Bool := saidB h l but h.reports.length && goB h l but h.letters.length
def truOf (h : RHarb) (but : List Int) (l : List Fate) : RTru := ⟨l,byTo h l but h.letters.length⟩
def truthsR (h : RHarb) (but : List Int) : List RTru := ((fleetsR h.ships h.lost).filter (trueB h but)).map (truOf h but)
theorem byTo_length (h : RHarb) (l : List Fate) (but : List Int) (n : Nat) : (byTo h l but n).length = n := by simp [byTo]
theorem fok_at : ∀ {l : List RShip} {f : List Fate},fokB l f = true → ∀ i,i < l.length → ((l[i]!).lo ≤ (f[i]!).late ∧ (f[i]!).late ≤ (l[i]!).hi) ∧ (0 ≤ (f[i]!).made ∧ (f[i]!).made ≤ ((l[i]!).calls.length : Int))
 | [],_,_,i,hi => by simp at hi
 | _ :: _,[],e,_,_ => by simp [fokB] at e
 | s :: l,x :: f,e,i,hi => by
  simp only [fokB,Bool.and_eq_true,decide_eq_true_eq] at e
  cases i with
  | zero => simpa using ⟨by omega,by omega⟩
  | succ i =>
   have := fok_at (l := l) (f := f) (by simp_all) i (by simpa using hi)
   simpa using this
theorem fok_fok {h : RHarb} (hh : HOk h) {f : List Fate} (e : fokB h.ships f = true) : FOk h f := by
 have hl := fok_len e
 refine ⟨hl,fun s hs => ?_,fun s hs => (fok_at e s (by omega)).2⟩
 have := (fok_at e s (by omega)).1
 have q := (hh.ship s (by omega)).late
 omega
theorem fleets_fok {h : RHarb} (hh : HOk h) {f : List Fate} (e : f ∈ fleetsR h.ships h.lost) : FOk h f := fok_fok hh (mem_fleetsR.1 e).1
set_option maxHeartbeats 4000000
set_option maxRecDepth 100000
theorem ixInts (l : List (List Int)) (i : Int) (K : AV → Prop) : VIdx (l.map ints) i K ↔ (0 ≤ i ∧ i.toNat < l.length) ∧ K (.slice 1 ((l[i.toNat]!).map (AV.int .i64))) := VIdx_map ints l i K
def knownR (h : RHarb) (e : Int) : List RTru × Int := if e ≠ 0 then ([],e) else if truthsR h [] = [] then ([],8) else (truthsR h [],0)
def calledTo (h : RHarb) (l : List RTru) (s : Nat) (port : Int) : Nat → (Int × Int) × Int
 | 0 => ((0,0),0)
 | n + 1 => if dayR h (l[n]!).fleet s port < 0 then calledTo h l s port n
  else if (calledTo h l s port n).2 = 0 then ((dayR h (l[n]!).fleet s port,dayR h (l[n]!).fleet s port),1)
  else ((min (calledTo h l s port n).1.1 (dayR h (l[n]!).fleet s port),max (calledTo h l s port n).1.2 (dayR h (l[n]!).fleet s port)),(calledTo h l s port n).2 + 1)
theorem called_le (h : RHarb) (l : List RTru) (s : Nat) (port : Int) (n : Nat) : 0 ≤ (calledTo h l s port n).2 ∧ (calledTo h l s port n).2 ≤ n := by
 induction n with
 | zero => simp [calledTo]
 | succ n ih =>
  unfold calledTo
  split
  ·omega
  ·split <;> dsimp only <;> omega
def settledR (a b : Int) : Int := if a = b then 1 else if a = 0 then 2 else 0
theorem indexE_zero {c n b : Int} (e : indexE c n b = 0) : c = 0 ∧ 0 ≤ n ∧ n ≤ b - 1 := by
 unfold indexE at e
 split at e
 ·rename_i q
  split at e
  ·omega
  ·rename_i q2
   refine ⟨q,?_⟩
   unfold offP at q2
   simp at q2
   omega
 ·omega
theorem dayE_zero {d e : Int} (q : dayE d e = 0) : e = 0 ∧ 0 ≤ d ∧ d ≤ 60 := by
 unfold dayE at q
 split at q
 ·rename_i q1
  split at q
  ·omega
  ·rename_i q2
   refine ⟨q1,?_⟩
   unfold offP at q2
   simp at q2
   omega
 ·omega
theorem known_zero {h : RHarb} {e : Int} (q : (knownR h e).2 = 0) : e = 0 ∧ (knownR h e).1 = truthsR h [] ∧ truthsR h [] ≠ [] := by
 unfold knownR at *
 split at q
 ·rename_i q1; exact absurd q q1
 ·rename_i q1
  split at q
  ·exact absurd q (by decide)
  ·rename_i q2
   exact ⟨by omega,by rw [if_neg q1,if_neg q2],q2⟩
def callsR (h : RHarb) (ship port : Int) : (Int × Int) × Int × Int :=
 let e1 := indexE (checkH h).2.2 ship h.ships.length
 let e2 := if e1 = 0 then indexE (checkH h).2.2 port h.ports else e1
 let k := knownR h e2
 if k.2 = 0 then let c := calledTo h k.1 ship.toNat port k.1.length; (c.1,settledR c.2 k.1.length,0) else ((0,0),0,k.2)
def sinkN (h : RHarb) (l : List RTru) (s : Nat) : Nat → Int
 | 0 => 0
 | n + 1 => sinkN h l s n + if (s : Int) ∈ lostL h (l[n]!).fleet (l[n]!).fleet.length then 1 else 0
theorem sinkN_le (h : RHarb) (l : List RTru) (s n : Nat) : 0 ≤ sinkN h l s n ∧ sinkN h l s n ≤ n := by
 induction n with
 | zero => simp [sinkN]
 | succ n ih => unfold sinkN; split <;> omega
def sureTo (h : RHarb) (l : List RTru) (k : Nat) : List Int := ((List.range k).filter fun s => decide (sinkN h l s l.length = (l.length : Int))).map fun (s : Nat) => (s : Int)
def mayTo (h : RHarb) (l : List RTru) (k : Nat) : List Int := ((List.range k).filter fun s => decide (0 < sinkN h l s l.length)).map fun (s : Nat) => (s : Int)
def sunkR (h : RHarb) : List Int × List Int × Int :=
 if (knownR h (checkH h).2.2).2 = 0 then (sureTo h (knownR h (checkH h).2.2).1 h.ships.length,mayTo h (knownR h (checkH h).2.2).1 h.ships.length,0) else ([],[],(knownR h (checkH h).2.2).2)
theorem ixZ (l : List Int) (i : Int) (K : AV → Prop) : VIdx (l.map (AV.int .i64)) i K ↔ (0 ≤ i ∧ i.toNat < l.length) ∧ K (.int .i64 l[i.toNat]!) := VIdx_map (AV.int .i64) l i K
structure TOk (h : RHarb) (t : RTru) : Prop where
 fok : FOk h t.fleet
 n : t.by_.length = h.letters.length
 len : ∀ k (_ : k < h.letters.length),(t.by_[k]!).length ≤ 3
 ship : ∀ k (_ : k < h.letters.length),∀ x ∈ t.by_[k]!,0 ≤ x ∧ x.toNat < h.ships.length
theorem byTo_at (h : RHarb) (l : List Fate) (but : List Int) {n k : Nat} (hk : k < n) : (byTo h l but n)[k]! = couldL h l k but h.ships.length := by
 rw [getD_any (by rw [byTo_length]; exact hk)]
 simp [byTo]
def comeIn (h : RHarb) (t : RTru) (k : Nat) (day : Int) : Nat → Int
 | 0 => 0
 | n + 1 => comeIn h t k day n + if untilB (dayR h t.fleet ((t.by_[k]!)[n]!).toNat (h.letters[k]!).port) day = true then 1 else 0
def comeTo (h : RHarb) (l : List RTru) (k : Nat) (day : Int) : Nat → Int
 | 0 => 0
 | n + 1 => comeTo h l k day n + comeIn h (l[n]!) k day ((l[n]!).by_[k]!).length
def allTo (l : List RTru) (k : Nat) : Nat → Int
 | 0 => 0
 | n + 1 => allTo l k n + (((l[n]!).by_[k]!).length : Int)
def comeR (h : RHarb) (letter day : Int) : Int × Int :=
 let k := knownR h (dayE day (indexE (checkH h).2.2 letter h.letters.length))
 if k.2 = 0 then (settledR (comeTo h k.1 letter.toNat day k.1.length) (allTo k.1 letter.toNat k.1.length),0) else (0,k.2)
def metB (l : List RTru) (k s n : Nat) : Bool := (List.range n).any fun i => decide ((s : Int) ∈ (l[i]!).by_[k]!)
def metL (l : List RTru) (k n : Nat) : List Int := ((List.range n).filter fun s => metB l k s l.length).map fun (s : Nat) => (s : Int)
def byR (h : RHarb) (letter : Int) : List Int × Int :=
 if (knownR h (indexE (checkH h).2.2 letter h.letters.length)).2 = 0 then (metL (knownR h (indexE (checkH h).2.2 letter h.letters.length)).1 letter.toNat h.ships.length,0) else ([],(knownR h (indexE (checkH h).2.2 letter h.letters.length)).2)
def befB (x y : Int) : Bool := decide (0 ≤ x) && !untilB y x
def befRow (h : RHarb) (t : RTru) (a b x : Nat) : Nat → Int
 | 0 => 0
 | n + 1 => befRow h t a b x n + if befB (dayR h t.fleet x (h.letters[a]!).port) (dayR h t.fleet ((t.by_[b]!)[n]!).toNat (h.letters[b]!).port) = true then 1 else 0
def befIn (h : RHarb) (t : RTru) (a b : Nat) : Nat → Int
 | 0 => 0
 | n + 1 => befIn h t a b n + befRow h t a b ((t.by_[a]!)[n]!).toNat (t.by_[b]!).length
def befTo (h : RHarb) (l : List RTru) (a b : Nat) : Nat → Int
 | 0 => 0
 | n + 1 => befTo h l a b n + befIn h (l[n]!) a b ((l[n]!).by_[a]!).length
def pairsTo (l : List RTru) (a b : Nat) : Nat → Int
 | 0 => 0
 | n + 1 => pairsTo l a b n + (((l[n]!).by_[a]!).length : Int) * (((l[n]!).by_[b]!).length : Int)
def befE (h : RHarb) (one other : Int) : Int :=
 if (if indexE (checkH h).2.2 one h.letters.length = 0 then indexE (checkH h).2.2 other h.letters.length else indexE (checkH h).2.2 one h.letters.length) = 0 ∧ one = other then 2 else (if indexE (checkH h).2.2 one h.letters.length = 0 then indexE (checkH h).2.2 other h.letters.length else indexE (checkH h).2.2 one h.letters.length)
def beforeR (h : RHarb) (one other : Int) : Int × Int :=
 if (knownR h (befE h one other)).2 = 0 then (settledR (befTo h (knownR h (befE h one other)).1 one.toNat other.toNat (knownR h (befE h one other)).1.length) (pairsTo (knownR h (befE h one other)).1 one.toNat other.toNat (knownR h (befE h one other)).1.length),0) else (0,(knownR h (befE h one other)).2)
def sendOk (h : RHarb) (l : List RTru) (port day : Int) (b : Int × Int) (s : Nat) : Bool :=
 takesB (h.ships[s]!) port day && (decide ((calledTo h l s port l.length).2 = (l.length : Int)) && (decide (b.1 < 0) || decide ((calledTo h l s port l.length).1.2 < b.2)))
def sendTo (h : RHarb) (l : List RTru) (port day : Int) : Nat → Int × Int
 | 0 => (-1,0)
 | s + 1 => if sendOk h l port day (sendTo h l port day s) s = true then ((s : Int),(calledTo h l s port l.length).1.2) else sendTo h l port day s
theorem sendTo_le (h : RHarb) (l : List RTru) (port day : Int) (n : Nat) : -1 ≤ (sendTo h l port day n).1 ∧ (sendTo h l port day n).1 < n := by
 induction n with
 | zero => simp [sendTo]
 | succ n ih => unfold sendTo; split <;> (try dsimp only) <;> omega
def sendR (h : RHarb) (port day : Int) : Int × Int × Int :=
 if (knownR h (dayE day (indexE (checkH h).2.2 port h.ports))).2 = 0 then (if (sendTo h (knownR h (dayE day (indexE (checkH h).2.2 port h.ports))).1 port day h.ships.length).1 < 0 then (0,0,9) else ((sendTo h (knownR h (dayE day (indexE (checkH h).2.2 port h.ports))).1 port day h.ships.length).1,(sendTo h (knownR h (dayE day (indexE (checkH h).2.2 port h.ports))).1 port day h.ships.length).2,0)) else (0,0,(knownR h (dayE day (indexE (checkH h).2.2 port h.ports))).2)
def leastN (i : Nat) (l : List Int) : Nat := if i = 0 then 0 else (l[i - 1]!).toNat + 1
def stepL (below i : Nat) (l : List Int) : List (List Int) := (List.range' (leastN i l) (below - leastN i l)).map fun (n : Nat) => l ++ [(n : Int)]
def choicesL (below : Nat) : Nat → List (List Int)
 | 0 => [[]]
 | i + 1 => (choicesL below i).flatMap (stepL below i)
def okT (h : RHarb) (but : List Int) : Bool := decide (0 < (truthsR h but).length)
def wrongFrom (h : RHarb) (many : Nat) : Option (List Int) := ((List.range' many (h.reports.length + 1 - many)).flatMap (choicesL h.reports.length)).find? (okT h)
def wrongOf (r : Option (List Int)) : List Int × Int := match r with | some l => (l,0) | none => ([],9)
def wrongR (h : RHarb) : List Int × Int := if (checkH h).2.2 = 0 then wrongOf (wrongFrom h 0) else ([],(checkH h).2.2)
def datedE (d : Int) : Int := if offP 0 60 d = true then 7 else 0
theorem dated_c (d : Int) : PCall Tryz.prog 39 [.int .i64 d] (.int .i64 (datedE d)) := by
 intro m
 have h := off_c 0 60 [d]
 have e : datedE d = if offP 0 60 d = true then 7 else 0 := rfl
 simp only [List.any_cons,List.any_nil,Bool.or_false] at h
 generalize datedE d = X at *
 simp only [ints,List.map_cons,List.map_nil] at *
 (refine acall_intro (E := env fun _ => .imm) (envOk _) rfl Tryz.func39 rfl Tryz.call39 (by kernel_rfl) (by simp [Tryz.ntmps39]) ?_; simp only [Tryz.f39];  simp(maxSteps:=9^9)only[↓VX,VQ,seval])
 ((refine ACall.pure (h) ?_; try simp(maxSteps:=9^9)only[↓VX,VQ,seval]); try simp(maxSteps:=9^9)only[↓VX,VQ,seval,GL])
 repeat'(first|intro _|apply And.intro)
 ·have q : offP 0 60 d = true := by assumption
  rw [e,if_pos q]
 ·have q : ¬ offP 0 60 d = true := by assumption
  rw [e,if_neg q]
theorem how_c (a b : Int) : PCall Tryz.prog 57 [.agg [.int .i64 a,.int .i64 b]] (.int .i64 (settledR a b)) := by
 intro m
 have e : settledR a b = if a = b then 1 else if a = 0 then 2 else 0 := rfl
 generalize settledR a b = X at *
 (refine acall_intro (E := env fun _ => .imm) (envOk _) rfl Tryz.func57 rfl Tryz.call57 (by kernel_rfl) (by simp [Tryz.ntmps57]) ?_; simp only [Tryz.f57];  simp(maxSteps:=9^9)only[↓VX,VQ,seval])
 repeat'(first|intro _|apply And.intro)
 ·have q : a = b := by assumption
  rw [e,if_pos q]
 ·have q : ¬ a = b := by assumption
  have q2 : a = 0 := by assumption
  rw [e,if_neg q,if_pos q2]
 ·have q : ¬ a = b := by assumption
  have q2 : ¬ a = 0 := by assumption
  rw [e,if_neg q,if_neg q2]
theorem list_c (s n : Nat) (hs : s < 2 ^ 62) (hn : n ≤ 60) : PCall Tryz.prog 60 [.int .i64 s,.int .i64 n] (ints (listTo s n)) := by
 intro m
 simp only [ints] at *
 (refine acall_intro (E := env fun _ => .imm) (envOk _) rfl Tryz.func60 rfl Tryz.call60 (by kernel_rfl) (by simp [Tryz.ntmps60]) ?_; simp only [Tryz.f60];  simp(maxSteps:=9^9)only[↓VX,VQ,seval])
 refine aloop (envOk _) (fun k : Nat => ⟨[(0,.v (.int .i64 s)),(4,.v (.slice 1 ((listTo s k).map (AV.int .i64)))),(6,.v (.int .i64 n)),(7,.v (.int .i64 k))],[4],[],m⟩) (fun k => k ≤ n) (fun k => n - k) 0 (fun _ => rfl) (by simp) (by (simp only [FE,↓FP,seval]); try simp [listTo]) ?_
 intro k hk
 have hlen := listTo_length s k
 have hsu := listTo_succ s k
 have hle : s / 2 ^ k ≤ s := Nat.div_le_self _ _
 simp(maxSteps:=9^9)only[↓VX,VQ,seval]
 repeat'(first|intro _|apply And.intro)
 all_goals try first|omega|(simp only[LL];omega)|exact nlC (by decide) _|exact nbC rfl
 ·have hb : s.testBit k = true := by assumption
  rw [if_pos hb] at hsu
  (refine ⟨k + 1,by first | omega | (dsimp only; omega),by dsimp only; omega,?_⟩; (simp only [FE,↓FP,seval]); try simp [hsu])
 ·have hb : ¬ s.testBit k = true := by assumption
  rw [if_neg hb] at hsu
  (refine ⟨k + 1,by first | omega | (dsimp only; omega),by dsimp only; omega,?_⟩; (simp only [FE,↓FP,seval]); try simp [hsu])
 ·rw [show k = n by omega]
theorem look1_c (a b : Int) : PCall Tryz.prog 103 [.int .i64 a,.int .i64 b] (.bool (decide (a = b))) := by
 intro m
 (refine acall_intro (E := env fun _ => .imm) (envOk _) rfl Tryz.func103 rfl Tryz.call103 (by kernel_rfl) (by simp [Tryz.ntmps103]) ?_; simp only [Tryz.f103];  simp(maxSteps:=9^9)only[↓VX,VQ,seval])
theorem look2_c (a b : Int) : PCall Tryz.prog 104 [.int .i64 a,.int .i64 b] (.bool (decide (b < a))) := by
 intro m
 (refine acall_intro (E := env fun _ => .imm) (envOk _) rfl Tryz.func104 rfl Tryz.call104 (by kernel_rfl) (by simp [Tryz.ntmps104]) ?_; simp only [Tryz.f104];  simp(maxSteps:=9^9)only[↓VX,VQ,seval])
theorem add_c (b : Nat) (yes all : Int) (is : Bool) (hy : 0 ≤ yes ∧ yes ≤ 1000000) (ha : 0 ≤ all ∧ all ≤ 1000000) (m : Mem) (hm : m b = some (.cells [.int .i64 yes,.int .i64 all])) :
  ACall Tryz.prog 61 [.ptr b 0,.bool is] m fun _ m' => m' = upd m b (some (.cells [.int .i64 (if is then yes + 1 else yes),.int .i64 (all + 1)])) := by
 (refine acall_intro (E := env fun _ => .imm) (envOk _) rfl Tryz.func61 rfl Tryz.call61 (by kernel_rfl) (by simp [Tryz.ntmps61]) ?_; simp only [Tryz.f61];  simp(maxSteps:=9^9)only[↓VX,VQ,seval])
 simp(maxSteps:=9^9)only[↓VX,VQ,seval,hm]
 repeat'(first|intro _|apply And.intro)
 all_goals try first|omega|(simp only[LL];omega)|exact nlC (by decide) _|exact nbC rfl
 ·have q : is = true := by assumption
  rw [q]
  funext x
  unfold upd
  split <;> rfl
 ·have q : is = false := by rw [← Bool.not_eq_true]; assumption
  rw [q]
  rfl
theorem upd_melt {m : Mem} {b : Nat} (e : m b = none) (x y : Option Box) : upd (upd (upd m b x) b y) b none = m := by
 funext k
 unfold upd
 by_cases q : k = b
 ·subst q; rw [if_pos rfl,e]
 ·rw [if_neg q,if_neg q,if_neg q]
theorem look_c (h : RHarb) (but : Int) (m : Mem) :
  ACall Tryz.prog 65 [harbA h,.int .i64 but] m fun r m' => ∃ b,m b = none ∧ r = .eptr (lookedL h but b) ∧ m' = upd m b (some (.map [])) := by
 simp only [harbA,harbL,lookedL] at *
 (refine acall_intro (E := envC (modeAt [] [6,7,12]) false [2,3,6]) (envCOk _ _ _) rfl Tryz.func65 rfl Tryz.call65 (by kernel_rfl) (by simp [Tryz.ntmps65]) ?_; simp only [Tryz.f65];  simp(maxSteps:=9^9)only[↓VX,VQ,seval])
 repeat'(first|intro _|apply And.intro)
 all_goals try first|omega|(simp only[LL];omega)|exact nlC (by decide) _|exact nbC rfl
 rename_i bm hbm b12 hb12
 refine acut_meltP (envCOk _ _ _) (fun (_ : Nat) => ⟨[(5,.v (.ptr b12 0)),(6,.v (.eptr [.fn (.func 103) [] []]))],[],[],(upd (upd m bm (some (.map []))) b12 (some (.cells [.int .i64 h.ports,.int .i64 h.lost,.slice 5 (h.ships.map shipA),.slice 3 (h.letters.map letA),.slice 4 (h.reports.map repA),.nilfunc,.nilfunc,.nilfunc,.nilfunc,.int .i64 but,.map bm])))⟩)
  (fun _ => True) (fun b6 => b6) (fun _ => [.fn (.func 103) [] []]) (fun _ => rfl) ?_ ?_
 ·show vcOps _ _ (_ :: _) _ _
  simp(maxSteps:=9^9)only[↓VX,VQ,seval]
  repeat'(first|intro _|apply And.intro)
  all_goals try first|omega|(simp only[LL];omega)|exact nlC (by decide) _|exact nbC rfl
  ·rfl
  ·rfl
  ·rename_i b6 hb6
   refine ⟨b6,⟨_,rfl,?_⟩,?_⟩
   ·rw [upd_same]; rfl
   ·simp only [Fits,fitsV,fitsO,fitsL,St.meltP,↓upd,↓lookV,↓lookO,↓lookL,Nat.reduceEqDiff,↓reduceIte,ints,and_true,true_and,Option.some.injEq,meltPV,meltPA,Option.map_some,List.map_cons,List.map_nil]
    have hne : b12 ≠ b6 := fun e => by rw [← e,if_pos rfl] at hb6; cases hb6
    rw [if_neg hne]
    exact ⟨rfl,upd_melt (by unfold upd; exact hb6) _ _⟩
 intro b6 _
 simp(maxSteps:=9^9)only[↓VX,VQ,seval]
 all_goals try first|omega|(simp only[LL];omega)|exact nlC (by decide) _|exact nbC rfl
 refine acut_meltP (envCOk _ _ _) (fun (_ : Nat) => ⟨[(5,.v (.ptr b12 0)),(6,.v (.eptr [.fn (.func 103) [] []])),(7,.v (.eptr [.fn (.func 104) [] []]))],[],[],(upd (upd m bm (some (.map []))) b12 (some (.cells [.int .i64 h.ports,.int .i64 h.lost,.slice 5 (h.ships.map shipA),.slice 3 (h.letters.map letA),.slice 4 (h.reports.map repA),.nilfunc,.nilfunc,.nilfunc,.nilfunc,.int .i64 but,.map bm])))⟩)
  (fun _ => True) (fun b7 => b7) (fun _ => [.fn (.func 104) [] []]) (fun _ => rfl) ?_ ?_
 ·show vcOps _ _ (_ :: _) _ _
  simp(maxSteps:=9^9)only[↓VX,VQ,seval]
  repeat'(first|intro _|apply And.intro)
  all_goals try first|omega|(simp only[LL];omega)|exact nlC (by decide) _|exact nbC rfl
  ·rfl
  ·rfl
  ·rename_i b7 hb7
   refine ⟨b7,⟨_,rfl,?_⟩,?_⟩
   ·rw [upd_same]; rfl
   ·simp only [Fits,fitsV,fitsO,fitsL,St.meltP,↓upd,↓lookV,↓lookO,↓lookL,Nat.reduceEqDiff,↓reduceIte,ints,and_true,true_and,Option.some.injEq,meltPV,meltPA,Option.map_some,List.map_cons,List.map_nil]
    have hne : b12 ≠ b7 := fun e => by rw [← e,if_pos rfl] at hb7; cases hb7
    rw [if_neg hne]
    exact ⟨rfl,upd_melt (by unfold upd; exact hb7) _ _⟩
 intro b7 _
 simp(maxSteps:=9^9)only[↓VX,VQ,seval]
 all_goals try first|omega|(simp only[LL];omega)|exact nlC (by decide) _|exact nbC rfl
 (refine adraw (by first | exact envOk _ | exact envCOk _ _ _) mixed [⟨true,false,0⟩,⟨true,false,0⟩,⟨true,false,0⟩,⟨true,false,0⟩,⟨true,false,0⟩,⟨true,false,0⟩,⟨true,false,0⟩,⟨false,false,0⟩,⟨true,false,0⟩,⟨true,false,0⟩,⟨true,false,0⟩,⟨false,false,0⟩] (by kernel_rfl) ?_; show vcOpsD _ _ _ (_ :: _) _ _)
 simp(maxSteps:=9^9)only[↓VX,VQ,seval]
 repeat'(first|intro _|apply And.intro)
 all_goals try first|omega|(simp only[LL];omega)|exact nlC (by decide) _|exact nbC rfl
 (refine adraw (by first | exact envOk _ | exact envCOk _ _ _) mixed [⟨true,false,0⟩,⟨true,false,0⟩,⟨true,false,0⟩,⟨true,false,0⟩,⟨true,false,0⟩,⟨true,false,0⟩,⟨true,false,0⟩,⟨false,false,0⟩,⟨true,false,0⟩,⟨true,false,0⟩,⟨true,false,0⟩,⟨false,false,0⟩] (by kernel_rfl) ?_; show vcOpsD _ _ _ (_ :: _) _ _)
 simp(maxSteps:=9^9)only[↓VX,VQ,seval]
 repeat'(first|intro _|apply And.intro)
 all_goals try first|omega|(simp only[LL];omega)|exact nlC (by decide) _|exact nbC rfl
 refine acut_meltP (envCOk _ _ _) (fun (_ : Unit) => ⟨[(4,.v (.eptr [.int .i64 h.ports,.int .i64 h.lost,.slice 5 (h.ships.map shipA),.slice 3 (h.letters.map letA),.slice 4 (h.reports.map repA),.fn (.func 103) [] [],.fn (.func 104) [] [],.fn (.func 103) [] [],.fn (.func 104) [] [],.int .i64 but,.map bm]))],[],[],upd m bm (some (.map []))⟩)
  (fun _ => True) (fun _ => b12) (fun _ => [.int .i64 h.ports,.int .i64 h.lost,.slice 5 (h.ships.map shipA),.slice 3 (h.letters.map letA),.slice 4 (h.reports.map repA),.fn (.func 103) [] [],.fn (.func 104) [] [],.fn (.func 103) [] [],.fn (.func 104) [] [],.int .i64 but,.map bm]) (fun _ => rfl) ?_ ?_
 ·show vcOps _ _ (_ :: _) _ _
  simp(maxSteps:=9^9)only[↓VX,VQ,seval]
  repeat'(first|intro _|apply And.intro)
  all_goals try first|omega|(simp only[LL];omega)|exact nlC (by decide) _|exact nbC rfl
  refine ⟨(),⟨_,rfl,?_⟩,?_⟩
  ·rw [upd_same]
  ·simp only [Fits,fitsV,fitsO,fitsL,St.meltP,↓upd,↓lookV,↓lookO,↓lookL,Nat.reduceEqDiff,↓reduceIte,ints,and_true,true_and,Option.some.injEq,meltPV,meltPA,Option.map_some,List.map_cons,List.map_nil]
   funext k
   unfold upd
   by_cases q : k = b12
   ·subst q; rw [if_pos rfl,hb12]
   ·simp only [if_neg q]
 intro _ _
 simp(maxSteps:=9^9)only[↓VX,VQ,seval]
 exact ⟨bm,hbm,rfl,rfl⟩
theorem drop_ints {l : List Int} {k : Nat} (h : k < l.length) : (l.map (AV.int .i64)).drop k = .int .i64 l[k]! :: (l.map (AV.int .i64)).drop (k + 1) := by
 rw [getD_any h,List.drop_eq_getElem_cons (by simpa using h)]
 simp
theorem indexM_c (b n cap : Nat) (l : List Int) (x : Int) (hn : n ≤ l.length) (hl : l.length ≤ 1000) (hc : n ≤ cap) (m : Mem) (hm : m b = some (.cells (l.map (AV.int .i64)))) :
  ACall Tryz.prog 129 [.mslice b 0 n cap,.int .i64 x] m fun r m' => (∃ v,r = .int .i64 v ∧ (0 ≤ v ↔ x ∈ l.take n)) ∧ m' = m := by
 (refine acall_intro (E := env fun _ => .imm) (envOk _) rfl Tryz.func129 rfl Tryz.call129 (by kernel_rfl) (by simp [Tryz.ntmps129]) ?_; simp only [Tryz.f129];  simp(maxSteps:=9^9)only[↓VX,VQ,seval])
 repeat'(first|intro _|apply And.intro)
 all_goals try first|omega|(simp only[LL];omega)|exact nlC (by decide) _|exact nbC rfl
 refine aloop (envOk _) (fun k : Nat => ⟨[(0,.v (.mslice b 0 n cap)),(1,.v (.int .i64 x)),(7,.v (.int .i64 n)),(8,.v (.int .i64 k))],[],[],m⟩)
  (fun k => k ≤ n ∧ x ∉ l.take k) (fun k => n - k) 0 (fun _ => rfl) (by simp) (by (simp only [FE,↓FP,seval]); try simp) ?_
 rintro k ⟨hk,hx⟩
 by_cases hlt : k < n
 ·have hdr := drop_ints (l := l) (k := k) (by omega)
  have htk : l.take (k + 1) = l.take k ++ [l[k]!] := by rw [getD_any (by omega),List.take_succ_eq_append_getElem (by omega)]
  have hsub : ∀ y,y ∈ l.take (k + 1) → y ∈ l.take n := fun y hy => (List.take_sublist_take_left (show k + 1 ≤ n by omega)).mem hy
  simp(maxSteps:=9^9)only[↓VX,VQ,seval,hm,hdr]
  repeat'(first|intro _|apply And.intro)
  all_goals try first|omega|(simp only[LL];omega)|exact nlC (by decide) _|exact nbC rfl
  ·have q : x = l[k]! := by assumption
   exact ⟨_,rfl,fun _ => hsub x (by rw [htk,q]; simp),fun _ => by omega⟩
  ·have q : ¬ x = l[k]! := by assumption
   refine ⟨k + 1,⟨by omega,by rw [htk]; simp only [List.mem_append,List.mem_singleton,not_or]; exact ⟨hx,q⟩⟩,by dsimp only; omega,?_⟩
   (simp only [FE,↓FP,seval])
   try simp
 ·simp(maxSteps:=9^9)only[↓VX,VQ,seval,hm]
  repeat'(first|intro _|apply And.intro)
  all_goals try first|omega|(simp only[LL];omega)|exact nlC (by decide) _|exact nbC rfl
  have hkn : k = n := by omega
  subst hkn
  first | exact hx | exact ⟨fun h => absurd h (by decide),fun h => absurd h hx⟩ | (simp; exact hx)
theorem containsM_c (b n cap : Nat) (l : List Int) (x : Int) (hn : n ≤ l.length) (hl : l.length ≤ 1000) (hc : n ≤ cap) (m : Mem) (hm : m b = some (.cells (l.map (AV.int .i64)))) :
  ACall Tryz.prog 118 [.mslice b 0 n cap,.int .i64 x] m fun r m' => r = .bool (decide (x ∈ l.take n)) ∧ m' = m := by
 have h := indexM_c b n cap l x hn hl hc m hm
 (refine acall_intro (E := env fun _ => .imm) (envOk _) rfl Tryz.func118 rfl Tryz.call118 (by kernel_rfl) (by simp [Tryz.ntmps118]) ?_; simp only [Tryz.f118];  simp(maxSteps:=9^9)only[↓VX,VQ,seval])
 refine h.mono ?_
 rintro r m' ⟨⟨v,rfl,hv⟩,rfl⟩
 simp(maxSteps:=9^9)only[↓VX,VQ,seval]
 repeat'(first|intro _|apply And.intro)
 rw [decide_eq_decide.2 hv]
theorem days_both {h : RHarb} (hh : HOk h) {l : List Fate} (hl : FOk h l) {s : Nat} (hs : s < h.ships.length) (port : Int) :
  (dayR h l s port = -1 ∧ dayN h (fun i => l[i]!) s port = 61) ∨ ((0 ≤ dayR h l s port ∧ dayR h l s port ≤ 43) ∧ dayN h (fun i => l[i]!) s port = dayR h l s port) := by
 have hso := hh.ship s hs
 have hcall := hso.call
 have hsa := hso.sails
 have hla := hl.late s (by rw [hl.n]; exact hs)
 have hma := hl.made s (by rw [hl.n]; exact hs)
 have hat : atC (h.ships[s]!).calls port = -1 ∨ ∃ k,k < (h.ships[s]!).calls.length ∧ atC (h.ships[s]!).calls port = (k : Int) := idxL_cases _ _
 have e1 : dayN h (fun i => l[i]!) s port = if atC (h.ships[s]!).calls port < 0 ∨ (l[s]!).made ≤ atC (h.ships[s]!).calls port then 61 else (h.ships[s]!).sails + ((h.ships[s]!).calls[(atC (h.ships[s]!).calls port).toNat]!).after + (l[s]!).late := rfl
 have e2 : dayR h l s port = if atC (h.ships[s]!).calls port < 0 ∨ (l[s]!).made ≤ atC (h.ships[s]!).calls port then -1 else (h.ships[s]!).sails + ((h.ships[s]!).calls[(atC (h.ships[s]!).calls port).toNat]!).after + (l[s]!).late := rfl
 by_cases q : atC (h.ships[s]!).calls port < 0 ∨ (l[s]!).made ≤ atC (h.ships[s]!).calls port
 ·rw [if_pos q] at e1 e2
  exact .inl ⟨e2,e1⟩
 ·rw [if_neg q] at e1 e2
  refine .inr ⟨?_,by rw [e1,e2]⟩
  obtain ⟨k,hk,hAk⟩ := hat.resolve_left (by omega)
  obtain ⟨c1,c2,_⟩ := hcall k hk
  rw [hAk,Int.toNat_natCast] at e2
  omega
theorem dayN_R {h : RHarb} (hh : HOk h) {l : List Fate} (hl : FOk h l) {s : Nat} (hs : s < h.ships.length) (port : Int) : dayN h (fun i => l[i]!) s port = if dayR h l s port < 0 then 61 else dayR h l s port := by
 rcases days_both hh hl hs port with ⟨h1,h2⟩ | ⟨h1,h2⟩
 ·rw [h1,h2]; rfl
 ·rw [if_neg (by omega),h2]
theorem dayR_le {h : RHarb} (hh : HOk h) {l : List Fate} (hl : FOk h l) {s : Nat} (hs : s < h.ships.length) (port : Int) : -1 ≤ dayR h l s port ∧ dayR h l s port ≤ 43 := by
 rcases days_both hh hl hs port with ⟨h1,h2⟩ | ⟨h1,h2⟩ <;> omega
def soN (r : RRep) (d : Int) : Bool := if r.kind = 0 ∨ r.kind = 2 then decide (d = r.day) else decide (r.day < d)
theorem so_eq {r : RRep} (hr : 0 ≤ r.day ∧ r.day ≤ 60) {d : Int} (hd : -1 ≤ d ∧ d ≤ 43) : soN r (if d < 0 then 61 else d) = soB r d := by
 unfold soN soB untilB
 by_cases q : r.kind = 0 ∨ r.kind = 2
 ·rw [if_pos q,if_pos q]
  rw [decide_eq_decide]
  split <;> omega
 ·rw [if_neg q,if_neg q]
  by_cases q1 : d < 0
  ·rw [if_pos q1]
   rw [decide_eq_true (by omega),decide_eq_false (by omega)]; rfl
  ·rw [if_neg q1]
   rw [decide_eq_true (show 0 ≤ d by omega),Bool.true_and,← decide_not,decide_eq_decide]
   omega
def ofN (h : RHarb) (k b i : Nat) : Bool := decide (2 ≤ (h.reports[i]!).kind) && (decide ((h.reports[i]!).of_ = (k : Int)) && !b.testBit i)
def repsN (h : RHarb) (f : Nat → Fate) (k b s n : Nat) : Bool := (List.range n).all fun i => !ofN h k b i || soN (h.reports[i]!) (dayN h f s (h.letters[k]!).port)
def loadB (h : RHarb) (f : Nat → Fate) (k b n s : Nat) : Bool := shipB h k s && repsN h f k b s n
def loadS (h : RHarb) (f : Nat → Fate) (b n k : Nat) : Nat := setOf (loadB h f k b n) h.ships.length
def ofSN (h : RHarb) (b i : Nat) : Bool := decide ((h.reports[i]!).kind < 2) && !b.testBit i
def saidN (h : RHarb) (f : Nat → Fate) (b n : Nat) : Bool := (List.range n).all fun i => !ofSN h b i || soN (h.reports[i]!) (dayN h f (h.reports[i]!).of_.toNat (h.reports[i]!).port)
theorem mem_listTo {s n i : Nat} (h : i < n) : (i : Int) ∈ listTo s n ↔ s.testBit i = true := by
 unfold listTo
 simp only [List.mem_map,List.mem_filter,List.mem_range]
 constructor
 ·rintro ⟨j,⟨h1,h2⟩,h3⟩
  have : j = i := by omega
  subst this; exact h2
 ·intro q; exact ⟨i,⟨h,q⟩,rfl⟩
theorem not_mem_listTo {s n i : Nat} (h : i < n) : decide ((i : Int) ∉ listTo s n) = !s.testBit i := by
 by_cases q : s.testBit i = true
 ·have c : ¬ ¬ (i : Int) ∈ listTo s n := fun c => c ((mem_listTo h).2 q)
  rw [q,decide_eq_false c]; rfl
 ·have c : ¬ (i : Int) ∈ listTo s n := fun c => q ((mem_listTo h).1 c)
  rw [decide_eq_true c,Bool.eq_false_iff.2 q]; rfl
theorem all_congr {n : Nat} {f g : Nat → Bool} (h : ∀ i,i < n → f i = g i) : (List.range n).all f = (List.range n).all g := by
 rw [Bool.eq_iff_iff,List.all_eq_true,List.all_eq_true]
 constructor
 ·intro q i hi; rw [← h i (List.mem_range.1 hi)]; exact q i hi
 ·intro q i hi; rw [h i (List.mem_range.1 hi)]; exact q i hi
theorem load_can {h : RHarb} (hh : HOk h) {l : List Fate} (hl : FOk h l) (b k : Nat) {s : Nat} (hs : s < h.ships.length) :
  loadB h (fun i => l[i]!) k b h.reports.length s = canB h l k (listTo b h.reports.length) s := by
 unfold loadB canB repsN repsB
 congr 1
 refine all_congr fun i hi => ?_
 have hr := (hh.report i hi).2.2.2
 unfold ofN ofB
 rw [not_mem_listTo hi,dayN_R hh hl hs,so_eq hr (dayR_le hh hl hs _)]
theorem said_same {h : RHarb} (hh : HOk h) {l : List Fate} (hl : FOk h l) (b : Nat) :
  saidN h (fun i => l[i]!) b h.reports.length = saidB h l (listTo b h.reports.length) h.reports.length := by
 unfold saidN saidB
 refine all_congr fun i hi => ?_
 have hr := hh.report i hi
 unfold ofSN ofS
 rw [not_mem_listTo hi]
 by_cases q : (h.reports[i]!).kind < 2
 ·have ho := hr.2.1
  rw [if_pos q] at ho
  rw [dayN_R hh hl (show (h.reports[i]!).of_.toNat < h.ships.length by omega),so_eq hr.2.2.2 (dayR_le hh hl (by omega) _)]
 ·rw [decide_eq_false q]; simp
theorem load_list {h : RHarb} (hh : HOk h) {l : List Fate} (hl : FOk h l) (b k : Nat) : listTo (loadS h (fun i => l[i]!) b h.reports.length k) h.ships.length = couldL h l k (listTo b h.reports.length) h.ships.length := by
 unfold couldL
 conv => lhs; unfold listTo
 congr 1
 refine List.filter_congr fun s hs => ?_
 have hs' := List.mem_range.1 hs
 rw [← load_can hh hl b k hs']
 unfold loadS
 rw [setOf_bit,decide_eq_true hs',Bool.true_and]
theorem part3 {cs : Array Value} {off : Nat} {v : Value} (h : cs[off]? = some v) (w : World) : (part 3 cs off).run Tryz.prog w = .ok v w := by
 unfold part
 rw [Sem.run_bind,tyok_3.agg w]
 simp [TyI.agg,h]
theorem eqInt3 (d : Nat) (a b : Int) (w : World) : (Op.equalIn (d + 1) 3 (.int .i64 a) (.int .i64 b)).run Tryz.prog w = .ok (decide (a = b)) w := by
 rw [run_equalIn_int w d 3 .i64 .i64 a b (by kernel_rfl)]
 by_cases h : a = b <;> simp [h]
theorem eqStep {d : Nat} {xs ys : Array Value} {f : Field} {fs : List Field} {a b : Int} {R : Bool} {w : World} (hn : f.name ≠ "_") (ht : f.type = 3) (hx : xs[f.offset]? = some (.int .i64 a)) (hy : ys[f.offset]? = some (.int .i64 b))
  (hr : (Op.eqFields (d + 1) xs ys fs).run Tryz.prog w = .ok R w) : (Op.eqFields (d + 1) xs ys (f :: fs)).run Tryz.prog w = .ok (decide (a = b) && R) w := by
 unfold Op.eqFields
 rw [if_pos hn,ht,Sem.run_bind,part3 hx,Result.andThen_ok,Sem.run_bind,part3 hy,Result.andThen_ok,Sem.run_bind,eqInt3,Result.andThen_ok]
 by_cases h : a = b
 ·simp [h,hr]
 ·simp [h]
theorem eqFlat127 (a b a' b' : Int) : EqFlat Tryz.prog 127 [.int .i64 a,.int .i64 b] [.int .i64 a',.int .i64 b'] (decide (a = a') && (decide (b = b') && true)) := by
 intro vs vs' com w x y h h'
 obtain ⟨v1,vs,rfl,r1,h⟩ := Reps.cons_inv h
 obtain ⟨v2,vs,rfl,r2,h⟩ := Reps.cons_inv h
 obtain rfl := Reps.nil_inv h
 obtain ⟨u1,us,rfl,s1,h'⟩ := Reps.cons_inv h'
 obtain ⟨u2,us,rfl,s2,h'⟩ := Reps.cons_inv h'
 obtain rfl := Reps.nil_inv h'
 obtain rfl := rep_int r1; obtain rfl := rep_int r2
 obtain rfl := rep_int s1; obtain rfl := rep_int s2
 have hg : Tryz.prog.eqGuardType Tryz.prog.depth 127 = false := by kernel_rfl
 have hu : Tryz.prog.underlying 127 = some (.struct (Tryz.prog.fieldsOf 127)) := by kernel_rfl
 have hs : Tryz.prog.stoodInHeld 127 = false := by kernel_rfl
 have key : (Op.equalIn 10000 127 (.agg #[.int .i64 a,.int .i64 b]) (.agg #[.int .i64 a',.int .i64 b'])).run Tryz.prog w =
   .ok (decide (a = a') && (decide (b = b') && true)) w := by
  rw [run_equalIn_agg w 9999 127 _ _ hu hs]
  simp only [Program.fieldsOf,Tryz.underlying127]
  exact eqStep (by decide) rfl rfl rfl (eqStep (by decide) rfl rfl rfl (by simp [Op.eqFields]))
 constructor
 ·rw [Sem.run_bind,run_eqGuard_agg w .eql 127 x y _ _ hg,Result.andThen_ok,run_eql_struct,key]; rfl
 ·rw [Sem.run_bind,run_eqGuard_agg w .neq 127 x y _ _ hg,Result.andThen_ok,run_neq_struct,key]; rfl
theorem part127 (cs : Array Value) (off : Nat) (w : World) : (part 127 cs off).run Tryz.prog w = .ok (.agg (cs.extract off (off + 2))) w := by
 unfold part
 rw [Sem.run_bind,tyok_127.agg w]
 simp [TyI.agg,Sem.run_bind,tyok_127.size w]
theorem eqFate (a b a' b' : Int) (w : World) : (Op.equalIn 9999 127 (.agg #[.int .i64 a,.int .i64 b]) (.agg #[.int .i64 a',.int .i64 b'])).run Tryz.prog w = .ok (decide (a = a') && (decide (b = b') && true)) w := by
 have hu : Tryz.prog.underlying 127 = some (.struct (Tryz.prog.fieldsOf 127)) := by kernel_rfl
 have hs : Tryz.prog.stoodInHeld 127 = false := by kernel_rfl
 rw [run_equalIn_agg w 9998 127 _ _ hu hs]
 simp only [Program.fieldsOf,Tryz.underlying127]
 exact eqStep (by decide) rfl rfl rfl (eqStep (by decide) rfl rfl rfl (by simp [Op.eqFields]))
theorem eqFleet (a b c d e f a' b' c' d' e' f' : Int) (w : World) : (Op.equalIn 10000 129 (.agg #[.int .i64 a,.int .i64 b,.int .i64 c,.int .i64 d,.int .i64 e,.int .i64 f]) (.agg #[.int .i64 a',.int .i64 b',.int .i64 c',.int .i64 d',.int .i64 e',.int .i64 f'])).run Tryz.prog w = .ok ((decide (a = a') && decide (b = b')) && ((decide (c = c') && decide (d = d')) && (decide (e = e') && decide (f = f')))) w := by
 have hsz : (sizeOf 127).run Tryz.prog w = .ok 2 w := tyok_127.size w
 have p0 := part127 #[.int .i64 a,.int .i64 b,.int .i64 c,.int .i64 d,.int .i64 e,.int .i64 f] 0 w
 have p1 := part127 #[.int .i64 a,.int .i64 b,.int .i64 c,.int .i64 d,.int .i64 e,.int .i64 f] 2 w
 have p2 := part127 #[.int .i64 a,.int .i64 b,.int .i64 c,.int .i64 d,.int .i64 e,.int .i64 f] 4 w
 have t0 := part127 #[.int .i64 a',.int .i64 b',.int .i64 c',.int .i64 d',.int .i64 e',.int .i64 f'] 0 w
 have t1 := part127 #[.int .i64 a',.int .i64 b',.int .i64 c',.int .i64 d',.int .i64 e',.int .i64 f'] 2 w
 have t2 := part127 #[.int .i64 a',.int .i64 b',.int .i64 c',.int .i64 d',.int .i64 e',.int .i64 f'] 4 w
 simp at p0 p1 p2 t0 t1 t2
 have q0 := eqFate a b a' b' w
 have q1 := eqFate c d c' d' w
 have q2 := eqFate e f e' f' w
 rw [show (10000 : Nat) = 9999 + 1 from rfl,Op.equalIn]
 generalize hE : Op.equalIn 9999 = E
 rw [hE] at q0 q1 q2
 simp only [Bool.and_true] at q0 q1 q2
 simp only [Sem.run_bind,run_underlying Tryz.underlying129,Result.andThen_ok,hsz]
 simp only [Std.Legacy.Range.forIn_eq_forIn_range',Std.Legacy.Range.size,Nat.sub_zero,Nat.add_sub_cancel,Nat.div_one,List.range'_succ,List.range'_zero,List.forIn_cons,List.forIn_nil,Nat.zero_add,Nat.reduceAdd,Nat.zero_mul,Nat.one_mul,Nat.reduceMul,Sem.run_bind,p0,p1,p2,t0,t1,t2,q0,q1,q2,Result.andThen_ok,Sem.run_ite,Sem.run_pure]
 clear hE
 generalize (decide (a = a') && decide (b = b')) = A at *
 generalize (decide (c = c') && decide (d = d')) = B at *
 generalize (decide (e = e') && decide (f = f')) = C at *
 cases A <;> cases B <;> cases C <;> simp_all
theorem eqFlat129 (a b c d e f a' b' c' d' e' f' : Int) : EqFlat Tryz.prog 129 [.int .i64 a,.int .i64 b,.int .i64 c,.int .i64 d,.int .i64 e,.int .i64 f] [.int .i64 a',.int .i64 b',.int .i64 c',.int .i64 d',.int .i64 e',.int .i64 f'] ((decide (a = a') && decide (b = b')) && ((decide (c = c') && decide (d = d')) && (decide (e = e') && decide (f = f')))) := by
 intro vs vs' com w x y h h'
 obtain ⟨v1,vs,rfl,r1,h⟩ := Reps.cons_inv h
 obtain ⟨v2,vs,rfl,r2,h⟩ := Reps.cons_inv h
 obtain ⟨v3,vs,rfl,r3,h⟩ := Reps.cons_inv h
 obtain ⟨v4,vs,rfl,r4,h⟩ := Reps.cons_inv h
 obtain ⟨v5,vs,rfl,r5,h⟩ := Reps.cons_inv h
 obtain ⟨v6,vs,rfl,r6,h⟩ := Reps.cons_inv h
 obtain rfl := Reps.nil_inv h
 obtain ⟨u1,us,rfl,s1,h'⟩ := Reps.cons_inv h'
 obtain ⟨u2,us,rfl,s2,h'⟩ := Reps.cons_inv h'
 obtain ⟨u3,us,rfl,s3,h'⟩ := Reps.cons_inv h'
 obtain ⟨u4,us,rfl,s4,h'⟩ := Reps.cons_inv h'
 obtain ⟨u5,us,rfl,s5,h'⟩ := Reps.cons_inv h'
 obtain ⟨u6,us,rfl,s6,h'⟩ := Reps.cons_inv h'
 obtain rfl := Reps.nil_inv h'
 obtain rfl := rep_int r1; obtain rfl := rep_int r2; obtain rfl := rep_int r3; obtain rfl := rep_int r4; obtain rfl := rep_int r5; obtain rfl := rep_int r6
 obtain rfl := rep_int s1; obtain rfl := rep_int s2; obtain rfl := rep_int s3; obtain rfl := rep_int s4; obtain rfl := rep_int s5; obtain rfl := rep_int s6
 have hg : Tryz.prog.eqGuardType Tryz.prog.depth 129 = false := by kernel_rfl
 have key := eqFleet a b c d e f a' b' c' d' e' f' w
 constructor
 ·rw [Sem.run_bind,run_eqGuard_agg w .eql 129 x y _ _ hg,Result.andThen_ok,run_eql_struct,key]; rfl
 ·rw [Sem.run_bind,run_eqGuard_agg w .neq 129 x y _ _ hg,Result.andThen_ok,run_neq_struct,key]; rfl
def keyA (l : List Fate) : AV := fleetA fun i => l[i]!
def keyV (l : List Fate) : Value := .agg #[.int .i64 (l[0]!).late,.int .i64 (l[0]!).made,.int .i64 (l[1]!).late,.int .i64 (l[1]!).made,.int .i64 (l[2]!).late,.int .i64 (l[2]!).made]
theorem rep_key {com : Nat → Nat} {w : World} {l : List Fate} {v : Value} (h : Rep com w (keyA l) v) : v = keyV l := by
 cases h with
 | agg _ vs hl h =>
  have hr : Reps com w (fleetL fun i => l[i]!) vs := ⟨hl,h⟩
  unfold fleetL at hr
  obtain ⟨v1,vs,rfl,r1,hr⟩ := Reps.cons_inv hr
  obtain ⟨v2,vs,rfl,r2,hr⟩ := Reps.cons_inv hr
  obtain ⟨v3,vs,rfl,r3,hr⟩ := Reps.cons_inv hr
  obtain ⟨v4,vs,rfl,r4,hr⟩ := Reps.cons_inv hr
  obtain ⟨v5,vs,rfl,r5,hr⟩ := Reps.cons_inv hr
  obtain ⟨v6,vs,rfl,r6,hr⟩ := Reps.cons_inv hr
  obtain rfl := Reps.nil_inv hr
  obtain rfl := rep_int r1; obtain rfl := rep_int r2; obtain rfl := rep_int r3; obtain rfl := rep_int r4; obtain rfl := rep_int r5; obtain rfl := rep_int r6
  rfl
theorem key_eq {l l' : List Fate} (h3 : l.length ≤ 3) (hl : l.length = l'.length) : ((decide ((l[0]!).late = (l'[0]!).late) && decide ((l[0]!).made = (l'[0]!).made)) && ((decide ((l[1]!).late = (l'[1]!).late) && decide ((l[1]!).made = (l'[1]!).made)) && (decide ((l[2]!).late = (l'[2]!).late) && decide ((l[2]!).made = (l'[2]!).made)))) = decide (l = l') := by
 rw [Bool.eq_iff_iff]
 simp only [Bool.and_eq_true,decide_eq_true_eq]
 constructor
 ·rintro ⟨⟨a1,a2⟩,⟨b1,b2⟩,c1,c2⟩
  refine List.ext_getElem hl fun i h1 h2 => ?_
  have hi : i = 0 ∨ i = 1 ∨ i = 2 := by omega
  have e : l[i]! = l'[i]! := by
   rcases hi with rfl | rfl | rfl
   ·cases hx : l[0]!; cases hy : l'[0]!; simp_all
   ·cases hx : l[1]!; cases hy : l'[1]!; simp_all
   ·cases hx : l[2]!; cases hy : l'[2]!; simp_all
  rwa [getD_any h1,getD_any h2] at e
 ·rintro rfl; simp
theorem equal_key (l l' : List Fate) (h3 : l.length ≤ 3) (hl : l.length = l'.length) (w : World) : (Op.equal 129 (keyV l) (keyV l')).run Tryz.prog w = .ok (decide (l = l')) w := by
 rw [← key_eq h3 hl]
 exact eqFleet _ _ _ _ _ _ _ _ _ _ _ _ w
theorem find_asking (V : List Fate → AV) {n : Nat} (h3 : n ≤ 3) {x : List Fate} (hx : x.length = n) {com : Nat → Nat} {w : World} : ∀ (ls : List (List Fate)) (es : List MapEntry) (i : Nat),(∀ l ∈ ls,l.length = n) → ls.length = es.length →
  (∀ (i : Nat) (l : List Fate) (m : MapEntry),ls[i]? = some l → es[i]? = some m → Rep com w (keyA l) m.key ∧ Rep com w (V l) m.val) →
  if x ∈ ls then ∃ j v,(Instr.findAsking 129 (keyV x) es i).run Tryz.prog w = .ok (some (j,v)) w ∧ Rep com w (V x) v else (Instr.findAsking 129 (keyV x) es i).run Tryz.prog w = .ok none w
 | [],[],i,_,_,_ => by simp [Instr.findAsking]
 | [],_ :: _,_,_,hl,_ => by simp at hl
 | _ :: _,[],_,_,hl,_ => by simp at hl
 | l :: ls,e :: es,i,hn,hl,hr => by
  have ih := find_asking V h3 hx ls es (i + 1) (fun y hy => hn y (by simp [hy])) (by simpa using hl) (fun j y m h1 h2 => hr (j + 1) y m (by simpa using h1) (by simpa using h2))
  have h0 := hr 0 l e rfl rfl
  have hk := rep_key h0.1
  have hln := hn l (by simp)
  have he := equal_key x l (by omega) (by omega) w
  have key : (Instr.findAsking 129 (keyV x) (e :: es) i).run Tryz.prog w = if x = l then .ok (some (i,e.val)) w else (Instr.findAsking 129 (keyV x) es (i + 1)).run Tryz.prog w := by
   rw [Instr.findAsking,hk,Sem.run_bind,he,Result.andThen_ok]
   by_cases q : x = l
   ·simp [q]
   ·simp [q]
  by_cases q : x = l
  ·subst q
   rw [if_pos (by simp)]
   exact ⟨i,e.val,by rw [key,if_pos rfl],h0.2⟩
  ·rw [key,if_neg q]
   have : (x ∈ l :: ls) ↔ x ∈ ls := by simp [q]
   simp only [this]
   exact ih
theorem chk3 (e : Bool) (n : Nat) (a : Int) (w : World) : (Instr.checkKey e (n + 1) 3 (.int .i64 a)).run Tryz.prog w = .ok () w := by
 rw [Instr.checkKey,Sem.run_bind,run_underlying Tryz.underlying3,Result.andThen_ok]
 rfl
theorem chk135 (e : Bool) (n : Nat) (a b : Int) (w : World) : (Instr.checkKey e (n + 2) 127 (.agg #[.int .i64 a,.int .i64 b])).run Tryz.prog w = .ok () w := by
 have p0 := part3 (cs := #[Value.int .i64 a,.int .i64 b]) (off := 0) rfl w
 have p1 := part3 (cs := #[Value.int .i64 a,.int .i64 b]) (off := 1) rfl w
 have q0 := chk3 e n a w
 have q1 := chk3 e n b w
 rw [Instr.checkKey,Sem.run_bind,run_underlying Tryz.underlying127,Result.andThen_ok]
 simp [Sem.run_bind,p0,p1,q0,q1,Result.andThen_ok]
theorem chk137 (e : Bool) (x : List Fate) (w : World) : (Instr.checkKey e 10000 129 (keyV x)).run Tryz.prog w = .ok () w := by
 have hsz : (sizeOf 127).run Tryz.prog w = .ok 2 w := tyok_127.size w
 have p0 := fun cs => part127 cs 0 w
 have p1 := fun cs => part127 cs 2 w
 have p2 := fun cs => part127 cs 4 w
 have q := fun a b => chk135 e 9997 a b w
 unfold keyV
 rw [show (10000 : Nat) = 9999 + 1 from rfl,Instr.checkKey,Sem.run_bind,run_underlying Tryz.underlying129,Result.andThen_ok]
 rw [show (9997 : Nat) + 2 = 9999 from rfl] at q
 generalize hE : Instr.checkKey e 9999 = E
 rw [hE] at q
 simp only [Std.Legacy.Range.forIn_eq_forIn_range',Std.Legacy.Range.size,Nat.sub_zero,Nat.add_sub_cancel,Nat.div_one,List.range'_succ,List.range'_zero,List.forIn_cons,List.forIn_nil,Nat.zero_add,Nat.reduceAdd,Nat.zero_mul,Nat.one_mul,Nat.reduceMul,Sem.run_bind,hsz,p0,p1,p2,Result.andThen_ok,Sem.run_pure]
 simp [q,p0,p1,p2,hsz,Sem.run_bind,Sem.run_pure,Result.andThen_ok]
theorem agg_find (V : List Fate → AV) {n : Nat} (h3 : n ≤ 3) {x : List Fate} (hx : x.length = n) (ls : List (List Fate)) (hn : ∀ l ∈ ls,l.length = n) :
  AggFinds Tryz.prog 129 (keyA x) (ls.map fun l => (keyA l,V l)) (if x ∈ ls then some (V x) else none) := by
 intro com w vk es hv hlen hr
 obtain rfl := rep_key hv
 refine ⟨?_,?_⟩
 ·exact fun e => chk137 e x w
 ·have h := find_asking V h3 hx (com := com) (w := w) ls es 0 hn (by simpa using hlen) (fun i l m h1 h2 => hr i _ _ m (by rw [List.getElem?_map,h1]; rfl) h2)
  have hf := run_findKey_eq (P := Tryz.prog) (w := w) (k := 129) (by simp [Tryz.underlying129]) (keyV x) es
  by_cases q : x ∈ ls
  ·rw [if_pos q] at h ⊢
   simp only [hf]
   exact h
  ·rw [if_neg q] at h ⊢
   simp only [hf]
   exact h
def nL (f : Nat → Int) (n : Nat) : List AV := (List.range n).map fun g => .int .i64 (f g)
theorem nL_length (f : Nat → Int) (n : Nat) : (nL f n).length = n := by simp [nL]
theorem nL_drop {f : Nat → Int} {n k : Nat} (hf : k < n) : (nL f n).drop k = .int .i64 (f k) :: (nL f n).drop (k + 1) := by
 rw [List.drop_eq_getElem_cons (by rw [nL_length]; exact hf)]
 simp [nL]
theorem nL_over {f : Nat → Int} {n k : Nat} (hf : k < n) (x : Int) : (nL f n).take k ++ [.int .i64 x] ++ (nL f n).drop (k + 1) = nL (fun g => if g = k then x else f g) n := by
 apply List.ext_getElem
 ·simp [nL_length]; omega
 ·intro i h1 h2
  rw [nL_length] at h2
  simp only [List.getElem_append,List.length_append,List.length_take,nL_length,List.length_cons,List.length_nil]
  have hm : min k n = k := by omega
  split
  ·rename_i h3
   split
   ·rename_i h4
    have : i ≠ k := by omega
    simp [nL,this]
   ·rename_i h4
    have : i = k := by omega
    subst this
    simp [nL,hm]
  ·rename_i h3
   have : i ≠ k := by omega
   simp [nL,this,hm]
   congr 1; omega
theorem nL_congr {f f' : Nat → Int} {n : Nat} (e : ∀ g,g < n → f g = f' g) : nL f n = nL f' n := by
 unfold nL
 exact List.map_congr_left fun g hg => by rw [e g (List.mem_range.1 hg)]
theorem nL_set {f f' : Nat → Int} {n k : Nat} (hk : k < n) {x : Int} (h0 : f' k = x) (h : ∀ g,g < n → g ≠ k → f' g = f g) : (nL f n).take k ++ .int .i64 x :: (nL f n).drop (k + 1) = nL f' n := by
 have := nL_over (f := f) hk x
 rw [List.append_assoc] at this
 rw [show AV.int .i64 x :: (nL f n).drop (k + 1) = [AV.int .i64 x] ++ (nL f n).drop (k + 1) from rfl,this]
 refine nL_congr fun g hg => ?_
 by_cases q : g = k
 ·rw [if_pos q,q,h0]
 ·rw [if_neg q,h g hg q]
theorem nL_set' {f f' : Nat → Int} {n k : Nat} (hk : k < n) {x : Int} (h0 : f' k = x) (h : ∀ g,g < n → g ≠ k → f' g = f g) : (nL f n).take k ++ [.int .i64 x] ++ (nL f n).drop (k + 1) = nL f' n := by
 have := nL_set hk h0 h
 rw [List.append_assoc]; exact this
theorem nL_ints (f : Nat → Int) (n : Nat) : nL f n = ((List.range n).map f).map (AV.int .i64) := by
 simp [nL]
def loadK (h : RHarb) (b : Nat) (l : List Fate) (n k : Nat) : Int := if k < h.letters.length then ((loadS h (fun i => l[i]!) b n k : Nat) : Int) else 0
def loadsV (h : RHarb) (b : Nat) (l : List Fate) : AV := .agg (nL (loadK h b l h.reports.length) 4)
def loadsOk (h : RHarb) (b : Nat) (l : List Fate) : Bool := saidN h (fun i => l[i]!) b h.reports.length && (List.range h.letters.length).all fun k => decide (loadS h (fun i => l[i]!) b h.reports.length k ≠ 0)
def knownKv (h : RHarb) (b : Nat) (ls : List (List Fate)) : List (AV × AV) := ls.map fun l => (keyA l,loadsV h b l)
theorem known_find {h : RHarb} (h3 : h.ships.length ≤ 3) (b : Nat) {l : List Fate} (hl : l.length = h.ships.length) (ls : List (List Fate)) (hn : ∀ x ∈ ls,x.length = h.ships.length) :
  AggFinds Tryz.prog 129 (keyA l) (knownKv h b ls) (if l ∈ ls then some (loadsV h b l) else none) := agg_find (loadsV h b) h3 hl ls hn
theorem knownKv_add (h : RHarb) (b : Nat) (ls : List (List Fate)) (l : List Fate) : knownKv h b (ls ++ [l]) = knownKv h b ls ++ [(keyA l,loadsV h b l)] := by simp [knownKv]
theorem setOf_ext {f g : Nat → Bool} {n : Nat} (e : ∀ i,i < n → f i = g i) : setOf f n = setOf g n := by
 refine Nat.eq_of_testBit_eq fun i => ?_
 rw [setOf_bit,setOf_bit]
 by_cases q : i < n
 ·rw [e i q]
 ·rw [decide_eq_false q]; rfl
theorem setOf_not {f : Nat → Bool} {n s : Nat} : natAndNot (setOf f n) (2 ^ s) = setOf (fun t => f t && !decide (t = s)) n := by
 refine Nat.eq_of_testBit_eq fun i => ?_
 rw [natAndNot_bit,setOf_bit,setOf_bit,Nat.testBit_two_pow,Bool.and_assoc]
 congr 2
 rw [Bool.eq_iff_iff]; simp; omega
def firstK (h : RHarb) (i s k : Nat) : Int := if k < i then ((setOf (shipB h k) h.ships.length : Nat) : Int) else if k = i then ((setOf (shipB h k) s : Nat) : Int) else 0
theorem firstK_next (h : RHarb) (i : Nat) : firstK h i h.ships.length = firstK h (i + 1) 0 := by
 funext k
 unfold firstK
 by_cases q : k < i
 ·rw [if_pos q,if_pos (by omega)]
 ·rw [if_neg q]
  by_cases q2 : k = i
  ·rw [if_pos q2,if_pos (by omega)]
  ·rw [if_neg q2,if_neg (by omega)]
   split <;> simp [setOf]
theorem firstK_zero (h : RHarb) : firstK h 0 0 = fun _ => 0 := by
 funext k
 unfold firstK
 rw [if_neg (by omega)]
 split <;> simp [setOf]
theorem firstK_load (h : RHarb) (b : Nat) (l : List Fate) : firstK h h.letters.length 0 = loadK h b l 0 := by
 funext k
 unfold firstK loadK
 by_cases q : k < h.letters.length
 ·rw [if_pos q,if_pos q]
  have e : setOf (shipB h k) h.ships.length = loadS h (fun i => l[i]!) b 0 k := by
   unfold loadS loadB repsN
   exact setOf_ext fun i _ => by simp
  rw [e]
 ·rw [if_neg q,if_neg q]
  split <;> simp [setOf]
theorem firstK_other {h : RHarb} {i s k : Nat} (q : k ≠ i) : firstK h i (s + 1) k = firstK h i s k := by
 unfold firstK
 by_cases q2 : k < i
 ·rw [if_pos q2,if_pos q2]
 ·rw [if_neg q2,if_neg q2,if_neg q,if_neg q]
theorem firstK_at {h : RHarb} {i s : Nat} : firstK h i s i = ((setOf (shipB h i) s : Nat) : Int) := by
 unfold firstK
 rw [if_neg (by omega),if_pos rfl]
theorem cast_eq {a b : Nat} (h : a = b) : (a : Int) = (b : Int) := by rw [h]
def midB (h : RHarb) (f : Nat → Fate) (b n s k t : Nat) : Bool := loadB h f k b n t && (!decide (t < s) || (!ofN h k b n || soN (h.reports[n]!) (dayN h f t (h.letters[k]!).port)))
def midK (h : RHarb) (b : Nat) (l : List Fate) (n s k : Nat) : Int := if k < h.letters.length then ((setOf (midB h (fun i => l[i]!) b n s k) h.ships.length : Nat) : Int) else 0
theorem midK_zero (h : RHarb) (b : Nat) (l : List Fate) (n : Nat) : midK h b l n 0 = loadK h b l n := by
 funext k
 unfold midK loadK
 split
 ·refine cast_eq ?_
  unfold loadS
  exact setOf_ext fun i _ => by simp [midB]
 ·rfl
theorem repsN_succ (h : RHarb) (f : Nat → Fate) (k b s n : Nat) : repsN h f k b s (n + 1) = (repsN h f k b s n && (!ofN h k b n || soN (h.reports[n]!) (dayN h f s (h.letters[k]!).port))) := by
 unfold repsN
 rw [List.range_succ,List.all_append]
 simp
theorem midK_end (h : RHarb) (b : Nat) (l : List Fate) (n : Nat) : midK h b l n h.ships.length = loadK h b l (n + 1) := by
 funext k
 unfold midK loadK
 split
 ·refine cast_eq ?_
  unfold loadS
  refine setOf_ext fun i hi => ?_
  unfold midB loadB
  rw [decide_eq_true hi,repsN_succ,Bool.and_assoc]
  simp
 ·rfl
theorem loadK_skip {h : RHarb} {b : Nat} {l : List Fate} {n : Nat} (hq : ∀ k,ofN h k b n = false) : loadK h b l (n + 1) = loadK h b l n := by
 funext k
 unfold loadK
 split
 ·refine cast_eq ?_
  unfold loadS
  refine setOf_ext fun i hi => ?_
  unfold loadB
  rw [repsN_succ,hq k]; simp
 ·rfl
theorem midK_other {h : RHarb} {b : Nat} {l : List Fate} {n s k : Nat} (hk : ofN h k b n = false) : midK h b l n (s + 1) k = midK h b l n s k := by
 unfold midK
 split
 ·refine cast_eq ?_
  refine setOf_ext fun i hi => ?_
  unfold midB
  rw [hk]; simp
 ·rfl
theorem midK_keep {h : RHarb} {b : Nat} {l : List Fate} {n s k : Nat} (hq : soN (h.reports[n]!) (dayN h (fun i => l[i]!) s (h.letters[k]!).port) = true) : midK h b l n (s + 1) k = midK h b l n s k := by
 unfold midK
 split
 ·refine cast_eq ?_
  refine setOf_ext fun i hi => ?_
  unfold midB
  by_cases e : i = s
  ·subst e; rw [hq]; simp
  ·have : (i < s + 1) ↔ i < s := by omega
   simp only [this]
 ·rfl
theorem midK_cut {h : RHarb} {b : Nat} {l : List Fate} {n s k : Nat} (hk : k < h.letters.length) (ho : ofN h k b n = true) (hq : soN (h.reports[n]!) (dayN h (fun i => l[i]!) s (h.letters[k]!).port) = false) :
  midK h b l n (s + 1) k = ((natAndNot (setOf (midB h (fun i => l[i]!) b n s k) h.ships.length) (2 ^ s) : Nat) : Int) := by
 unfold midK
 rw [if_pos hk,setOf_not]
 refine cast_eq ?_
 refine setOf_ext fun i hi => ?_
 unfold midB
 by_cases e : i = s
 ·subst e; rw [hq,ho]; simp
 ·have : (i < s + 1) ↔ i < s := by omega
  simp [this,e]
theorem saidN_succ (h : RHarb) (f : Nat → Fate) (b n : Nat) : saidN h f b (n + 1) = (saidN h f b n && (!ofSN h b n || soN (h.reports[n]!) (dayN h f (h.reports[n]!).of_.toNat (h.reports[n]!).port))) := by
 unfold saidN
 rw [List.range_succ,List.all_append]
 simp
theorem saidN_false {h : RHarb} {f : Nat → Fate} {b n : Nat} (hn : n < h.reports.length) (hq : saidN h f b (n + 1) = false) : saidN h f b h.reports.length = false := by
 unfold saidN at *
 rw [List.all_eq_false] at *
 obtain ⟨x,hx,hp⟩ := hq
 exact ⟨x,List.mem_range.2 (by have := List.mem_range.1 hx; omega),hp⟩
theorem loads_none {h : RHarb} (h4 : h.letters.length ≤ 4) {b : Nat} {l : List Fate} : decide ((0 : Int) ∈ ((List.range 4).map (loadK h b l h.reports.length)).take h.letters.length) = !(List.range h.letters.length).all fun k => decide (loadS h (fun i => l[i]!) b h.reports.length k ≠ 0) := by
 rw [← List.map_take,List.take_range,show min h.letters.length 4 = h.letters.length by omega,Bool.eq_iff_iff,decide_eq_true_eq,List.mem_map,Bool.not_eq_true',List.all_eq_false]
 constructor
 ·rintro ⟨k,hk,e⟩
  have hk' := List.mem_range.1 hk
  unfold loadK at e
  rw [if_pos hk'] at e
  exact ⟨k,hk,by rw [decide_eq_true_eq,ne_eq,Classical.not_not]; omega⟩
 ·rintro ⟨k,hk,e⟩
  have hk' := List.mem_range.1 hk
  refine ⟨k,hk,?_⟩
  unfold loadK
  rw [if_pos hk']
  rw [decide_eq_true_eq,ne_eq,Classical.not_not] at e
  rw [e]; rfl
theorem kind_fn {r : RRep} (hr : 0 ≤ r.kind ∧ r.kind ≤ 3) : ∃ g,(∀ x y,∃ rest,List.drop r.kind.toNat [AV.fn (.func 103) [] [],.fn (.func 104) [] [],.fn (.func 103) [] [],.fn (.func 104) [] [],x,y] = .fn (.func g) [] [] :: rest) ∧
  ∀ d,PCall Tryz.prog g [.int .i64 d,.int .i64 r.day] (.bool (soN r d)) := by
 have hk : r.kind = 0 ∨ r.kind = 1 ∨ r.kind = 2 ∨ r.kind = 3 := by omega
 have h1 : r.kind = 0 ∨ r.kind = 2 → ∀ d,PCall Tryz.prog 103 [.int .i64 d,.int .i64 r.day] (.bool (soN r d)) := fun q d => by
  have := look1_c d r.day
  unfold soN; rw [if_pos q]; exact this
 have h2 : r.kind = 1 ∨ r.kind = 3 → ∀ d,PCall Tryz.prog 104 [.int .i64 d,.int .i64 r.day] (.bool (soN r d)) := fun q d => by
  have := look2_c d r.day
  unfold soN; rw [if_neg (by omega)]; exact this
 rcases hk with e | e | e | e
 ·exact ⟨_,fun x y => ⟨_,by rw [e]; rfl⟩,h1 (.inl e)⟩
 ·exact ⟨_,fun x y => ⟨_,by rw [e]; rfl⟩,h2 (.inl e)⟩
 ·exact ⟨_,fun x y => ⟨_,by rw [e]; rfl⟩,h1 (.inr e)⟩
 ·exact ⟨_,fun x y => ⟨_,by rw [e]; rfl⟩,h2 (.inr e)⟩
end Go.Proofs.YteppmjlfpniiaaaGreat.Abs
