/- Lemmas for the statements of this seat (W7): they hold without conditions beyond those that each one states. -/
import Derived.Test.YtikodjpbknneoaaW6
import Derived.Test.YtikodjpbknneoaaW5
import Derived.Test.YtikodjpbknneoaaW2
import Derived.Laws.StructEq
import Derived.WideKeyRuns
/- Contracts: the reference's Calls,Sunk. -/
namespace Go.Proofs.Ytikodjpbknneoaa.Abs
set_option linter.unusedSimpArgs false
open Go Go.RowKit Go.Proofs
def settledR (a b : Int) : Int := if a = b then 1 else if a = 0 then 2 else 0
theorem known_zero {h : RHarb} {e : Int} (q : (knownR h e).2 = 0) : e = 0 ∧ (knownR h e).1 = truthsR h [] ∧ truthsR h [] ≠ [] := by
 unfold knownR at *
 split at q
 ·rename_i q1; exact absurd q q1
 ·rename_i q1
  split at q
  ·exact absurd q (by decide)
  ·rename_i q2
   exact ⟨by omega,by rw [if_neg q1,if_neg q2],q2⟩
theorem truths_fok {h : RHarb} (hh : HOk h) {but : List Int} {t : RTru} (e : t ∈ truthsR h but) : FOk h t.fleet := by
 unfold truthsR at e
 simp only [List.mem_map,List.mem_filter] at e
 obtain ⟨f,⟨h1,h2⟩,h3⟩ := e
 subst h3
 exact fleets_fok hh h1
theorem truths_by {h : RHarb} {but : List Int} {t : RTru} (e : t ∈ truthsR h but) : t.by_ = byTo h t.fleet but h.letters.length := by
 unfold truthsR at e
 simp only [List.mem_map,List.mem_filter] at e
 obtain ⟨f,⟨h1,h2⟩,h3⟩ := e
 subst h3
 rfl
def sinkN (h : RHarb) (l : List RTru) (s : Nat) : Nat → Int
 | 0 => 0
 | n + 1 => sinkN h l s n + if (s : Int) ∈ lostL h (l[n]!).fleet (l[n]!).fleet.length then 1 else 0
theorem sinkN_le (h : RHarb) (l : List RTru) (s n : Nat) : 0 ≤ sinkN h l s n ∧ sinkN h l s n ≤ n := by
 induction n with
 | zero => simp [sinkN]
 | succ n ih => unfold sinkN; split <;> omega
def sureTo (h : RHarb) (l : List RTru) (k : Nat) : List Int := ((List.range k).filter fun s => decide (sinkN h l s l.length = (l.length : Int))).map fun (s : Nat) => (s : Int)
def mayTo (h : RHarb) (l : List RTru) (k : Nat) : List Int := ((List.range k).filter fun s => decide (0 < sinkN h l s l.length)).map fun (s : Nat) => (s : Int)
def sunkR (h : RHarb) : List Int × List Int × Int :=
 if (knownR h (checkH h).2.2).2 = 0 then (sureTo h (knownR h (checkH h).2.2).1 h.ships.length,mayTo h (knownR h (checkH h).2.2).1 h.ships.length,0) else ([],[],(knownR h (checkH h).2.2).2)
set_option maxHeartbeats 4000000
set_option maxRecDepth 100000
theorem ixZ (l : List Int) (i : Int) (K : AV → Prop) : VIdx (l.map (AV.int .i64)) i K ↔ (0 ≤ i ∧ i.toNat < l.length) ∧ K (.int .i64 l[i.toNat]!) := VIdx_map (AV.int .i64) l i K
structure TOk (h : RHarb) (t : RTru) : Prop where
 fok : FOk h t.fleet
 n : t.by_.length = h.letters.length
 len : ∀ k (_ : k < h.letters.length),(t.by_[k]!).length ≤ 3
 ship : ∀ k (_ : k < h.letters.length),∀ x ∈ t.by_[k]!,0 ≤ x ∧ x.toNat < h.ships.length
theorem byTo_at (h : RHarb) (l : List Fate) (but : List Int) {n k : Nat} (hk : k < n) : (byTo h l but n)[k]! = couldL h l k but h.ships.length := by
 rw [getD_any (by rw [byTo_length]; exact hk)]
 simp [byTo]
theorem truths_tok {h : RHarb} (hh : HOk h) {but : List Int} {t : RTru} (e : t ∈ truthsR h but) : TOk h t := by
 have hb := truths_by e
 refine ⟨truths_fok hh e,by rw [hb,byTo_length],fun k hk => ?_,fun k hk x hx => ?_⟩
 ·rw [hb,byTo_at h _ _ hk]
  exact Nat.le_trans (couldL_length _ _ _ _ _) hh.n
 ·rw [hb,byTo_at h _ _ hk] at hx
  unfold couldL at hx
  simp only [List.mem_map,List.mem_filter,List.mem_range] at hx
  obtain ⟨i,⟨h1,h2⟩,h3⟩ := hx
  omega
def okT (h : RHarb) (but : List Int) : Bool := decide (0 < (truthsR h but).length)
theorem list_c (s n : Nat) (hs : s < 2 ^ 62) (hn : n ≤ 60) : PCall Try.prog 68 [.int .i64 s,.int .i64 n] (ints (listTo s n)) := by
 intro m
 simp only [ints] at *
 (refine acall_intro (E := env fun _ => .imm) (envOk _) rfl Try.func68 rfl Try.call68 (by kernel_rfl) (by simp [Try.ntmps68]) ?_; simp only [Try.f68];  simp(maxSteps:=9^9)only[↓VX,VQ,seval])
 refine aloop (envOk _) (fun k : Nat => ⟨[(0,.v (.int .i64 s)),(4,.v (.slice 1 ((listTo s k).map (AV.int .i64)))),(6,.v (.int .i64 n)),(7,.v (.int .i64 k))],[4],[],m⟩) (fun k => k ≤ n) (fun k => n - k) 0 (fun _ => rfl) (by simp) (by (simp only [FE,↓FP,seval]); try simp [listTo]) ?_
 intro k hk
 have hlen := listTo_length s k
 have hsu := listTo_succ s k
 have hle : s / 2 ^ k ≤ s := Nat.div_le_self _ _
 simp(maxSteps:=9^9)only[↓VX,VQ,seval]
 repeat'(first|intro _|apply And.intro)
 all_goals try first|omega|(simp only[LL];omega)|exact nlC (by decide) _|exact nbC rfl
 ·have hb : s.testBit k = true := by assumption
  rw [if_pos hb] at hsu
  (refine ⟨k + 1,by first | omega | (dsimp only; omega),by dsimp only; omega,?_⟩; (simp only [FE,↓FP,seval]); try simp [hsu])
 ·have hb : ¬ s.testBit k = true := by assumption
  rw [if_neg hb] at hsu
  (refine ⟨k + 1,by first | omega | (dsimp only; omega),by dsimp only; omega,?_⟩; (simp only [FE,↓FP,seval]); try simp [hsu])
 ·rw [show k = n by omega]
theorem look1_c (a b : Int) : PCall Try.prog 85 [.int .i64 a,.int .i64 b] (.bool (decide (a = b))) := by
 intro m
 (refine acall_intro (E := env fun _ => .imm) (envOk _) rfl Try.func85 rfl Try.call85 (by kernel_rfl) (by simp [Try.ntmps85]) ?_; simp only [Try.f85];  simp(maxSteps:=9^9)only[↓VX,VQ,seval])
theorem look2_c (a b : Int) : PCall Try.prog 86 [.int .i64 a,.int .i64 b] (.bool (decide (b < a))) := by
 intro m
 (refine acall_intro (E := env fun _ => .imm) (envOk _) rfl Try.func86 rfl Try.call86 (by kernel_rfl) (by simp [Try.ntmps86]) ?_; simp only [Try.f86];  simp(maxSteps:=9^9)only[↓VX,VQ,seval])
theorem upd_melt {m : Mem} {b : Nat} (e : m b = none) (x y : Option Box) : upd (upd (upd m b x) b y) b none = m := by
 funext k
 unfold upd
 by_cases q : k = b
 ·subst q; rw [if_pos rfl,e]
 ·rw [if_neg q,if_neg q,if_neg q]
theorem look_c (h : RHarb) (but : Int) (m : Mem) :
  ACall Try.prog 78 [harbA h,.int .i64 but] m fun r m' => ∃ b,m b = none ∧ r = .eptr (lookedL h but b) ∧ m' = upd m b (some (.map [])) := by
 simp only [harbA,harbL,lookedL] at *
 (refine acall_intro (E := envC (modeAt [] [6,7,12]) false [2,3,6]) (envCOk _ _ _) rfl Try.func78 rfl Try.call78 (by kernel_rfl) (by simp [Try.ntmps78]) ?_; simp only [Try.f78];  simp(maxSteps:=9^9)only[↓VX,VQ,seval])
 repeat'(first|intro _|apply And.intro)
 all_goals try first|omega|(simp only[LL];omega)|exact nlC (by decide) _|exact nbC rfl
 rename_i bm hbm b12 hb12
 refine acut_meltP (envCOk _ _ _) (fun (_ : Nat) => ⟨[(5,.v (.ptr b12 0)),(6,.v (.eptr [.fn (.func 85) [] []]))],[],[],(upd (upd m bm (some (.map []))) b12 (some (.cells [.int .i64 h.ports,.int .i64 h.lost,.slice 5 (h.ships.map shipA),.slice 3 (h.letters.map letA),.slice 4 (h.reports.map repA),.nilfunc,.nilfunc,.nilfunc,.nilfunc,.int .i64 but,.map bm])))⟩)
  (fun _ => True) (fun b6 => b6) (fun _ => [.fn (.func 85) [] []]) (fun _ => rfl) ?_ ?_
 ·show vcOps _ _ (_ :: _) _ _
  simp(maxSteps:=9^9)only[↓VX,VQ,seval]
  repeat'(first|intro _|apply And.intro)
  all_goals try first|omega|(simp only[LL];omega)|exact nlC (by decide) _|exact nbC rfl
  ·rfl
  ·rfl
  ·rename_i b6 hb6
   refine ⟨b6,⟨_,rfl,?_⟩,?_⟩
   ·rw [upd_same]; rfl
   ·simp only [Fits,fitsV,fitsO,fitsL,St.meltP,↓upd,↓lookV,↓lookO,↓lookL,Nat.reduceEqDiff,↓reduceIte,ints,and_true,true_and,Option.some.injEq,meltPV,meltPA,Option.map_some,List.map_cons,List.map_nil]
    have hne : b12 ≠ b6 := fun e => by rw [← e,if_pos rfl] at hb6; cases hb6
    rw [if_neg hne]
    exact ⟨rfl,upd_melt (by unfold upd; exact hb6) _ _⟩
 intro b6 _
 simp(maxSteps:=9^9)only[↓VX,VQ,seval]
 all_goals try first|omega|(simp only[LL];omega)|exact nlC (by decide) _|exact nbC rfl
 refine acut_meltP (envCOk _ _ _) (fun (_ : Nat) => ⟨[(5,.v (.ptr b12 0)),(6,.v (.eptr [.fn (.func 85) [] []])),(7,.v (.eptr [.fn (.func 86) [] []]))],[],[],(upd (upd m bm (some (.map []))) b12 (some (.cells [.int .i64 h.ports,.int .i64 h.lost,.slice 5 (h.ships.map shipA),.slice 3 (h.letters.map letA),.slice 4 (h.reports.map repA),.nilfunc,.nilfunc,.nilfunc,.nilfunc,.int .i64 but,.map bm])))⟩)
  (fun _ => True) (fun b7 => b7) (fun _ => [.fn (.func 86) [] []]) (fun _ => rfl) ?_ ?_
 ·show vcOps _ _ (_ :: _) _ _
  simp(maxSteps:=9^9)only[↓VX,VQ,seval]
  repeat'(first|intro _|apply And.intro)
  all_goals try first|omega|(simp only[LL];omega)|exact nlC (by decide) _|exact nbC rfl
  ·rfl
  ·rfl
  ·rename_i b7 hb7
   refine ⟨b7,⟨_,rfl,?_⟩,?_⟩
   ·rw [upd_same]; rfl
   ·simp only [Fits,fitsV,fitsO,fitsL,St.meltP,↓upd,↓lookV,↓lookO,↓lookL,Nat.reduceEqDiff,↓reduceIte,ints,and_true,true_and,Option.some.injEq,meltPV,meltPA,Option.map_some,List.map_cons,List.map_nil]
    have hne : b12 ≠ b7 := fun e => by rw [← e,if_pos rfl] at hb7; cases hb7
    rw [if_neg hne]
    exact ⟨rfl,upd_melt (by unfold upd; exact hb7) _ _⟩
 intro b7 _
 simp(maxSteps:=9^9)only[↓VX,VQ,seval]
 all_goals try first|omega|(simp only[LL];omega)|exact nlC (by decide) _|exact nbC rfl
 (refine adraw (by first | exact envOk _ | exact envCOk _ _ _) mixed [⟨true,false,0⟩,⟨true,false,0⟩,⟨true,false,0⟩,⟨true,false,0⟩,⟨true,false,0⟩,⟨true,false,0⟩,⟨true,false,0⟩,⟨false,false,0⟩,⟨true,false,0⟩,⟨true,false,0⟩,⟨true,false,0⟩,⟨false,false,0⟩] (by kernel_rfl) ?_; show vcOpsD _ _ _ (_ :: _) _ _)
 simp(maxSteps:=9^9)only[↓VX,VQ,seval]
 repeat'(first|intro _|apply And.intro)
 all_goals try first|omega|(simp only[LL];omega)|exact nlC (by decide) _|exact nbC rfl
 (refine adraw (by first | exact envOk _ | exact envCOk _ _ _) mixed [⟨true,false,0⟩,⟨true,false,0⟩,⟨true,false,0⟩,⟨true,false,0⟩,⟨true,false,0⟩,⟨true,false,0⟩,⟨true,false,0⟩,⟨false,false,0⟩,⟨true,false,0⟩,⟨true,false,0⟩,⟨true,false,0⟩,⟨false,false,0⟩] (by kernel_rfl) ?_; show vcOpsD _ _ _ (_ :: _) _ _)
 simp(maxSteps:=9^9)only[↓VX,VQ,seval]
 repeat'(first|intro _|apply And.intro)
 all_goals try first|omega|(simp only[LL];omega)|exact nlC (by decide) _|exact nbC rfl
 refine acut_meltP (envCOk _ _ _) (fun (_ : Unit) => ⟨[(4,.v (.eptr [.int .i64 h.ports,.int .i64 h.lost,.slice 5 (h.ships.map shipA),.slice 3 (h.letters.map letA),.slice 4 (h.reports.map repA),.fn (.func 85) [] [],.fn (.func 86) [] [],.fn (.func 85) [] [],.fn (.func 86) [] [],.int .i64 but,.map bm]))],[],[],upd m bm (some (.map []))⟩)
  (fun _ => True) (fun _ => b12) (fun _ => [.int .i64 h.ports,.int .i64 h.lost,.slice 5 (h.ships.map shipA),.slice 3 (h.letters.map letA),.slice 4 (h.reports.map repA),.fn (.func 85) [] [],.fn (.func 86) [] [],.fn (.func 85) [] [],.fn (.func 86) [] [],.int .i64 but,.map bm]) (fun _ => rfl) ?_ ?_
 ·show vcOps _ _ (_ :: _) _ _
  simp(maxSteps:=9^9)only[↓VX,VQ,seval]
  repeat'(first|intro _|apply And.intro)
  all_goals try first|omega|(simp only[LL];omega)|exact nlC (by decide) _|exact nbC rfl
  refine ⟨(),⟨_,rfl,?_⟩,?_⟩
  ·rw [upd_same]
  ·simp only [Fits,fitsV,fitsO,fitsL,St.meltP,↓upd,↓lookV,↓lookO,↓lookL,Nat.reduceEqDiff,↓reduceIte,ints,and_true,true_and,Option.some.injEq,meltPV,meltPA,Option.map_some,List.map_cons,List.map_nil]
   funext k
   unfold upd
   by_cases q : k = b12
   ·subst q; rw [if_pos rfl,hb12]
   ·simp only [if_neg q]
 intro _ _
 simp(maxSteps:=9^9)only[↓VX,VQ,seval]
 exact ⟨bm,hbm,rfl,rfl⟩
theorem drop_ints {l : List Int} {k : Nat} (h : k < l.length) : (l.map (AV.int .i64)).drop k = .int .i64 l[k]! :: (l.map (AV.int .i64)).drop (k + 1) := by
 rw [getD_any h,List.drop_eq_getElem_cons (by simpa using h)]
 simp
theorem indexM_c (b n cap : Nat) (l : List Int) (x : Int) (hn : n ≤ l.length) (hl : l.length ≤ 1000) (hc : n ≤ cap) (m : Mem) (hm : m b = some (.cells (l.map (AV.int .i64)))) :
  ACall Try.prog 29 [.mslice b 0 n cap,.int .i64 x] m fun r m' => (∃ v,r = .int .i64 v ∧ (0 ≤ v ↔ x ∈ l.take n)) ∧ m' = m := by
 (refine acall_intro (E := env fun _ => .imm) (envOk _) rfl Try.func29 rfl Try.call29 (by kernel_rfl) (by simp [Try.ntmps29]) ?_; simp only [Try.f29];  simp(maxSteps:=9^9)only[↓VX,VQ,seval])
 repeat'(first|intro _|apply And.intro)
 all_goals try first|omega|(simp only[LL];omega)|exact nlC (by decide) _|exact nbC rfl
 refine aloop (envOk _) (fun k : Nat => ⟨[(0,.v (.mslice b 0 n cap)),(1,.v (.int .i64 x)),(7,.v (.int .i64 n)),(8,.v (.int .i64 k))],[],[],m⟩)
  (fun k => k ≤ n ∧ x ∉ l.take k) (fun k => n - k) 0 (fun _ => rfl) (by simp) (by (simp only [FE,↓FP,seval]); try simp) ?_
 rintro k ⟨hk,hx⟩
 by_cases hlt : k < n
 ·have hdr := drop_ints (l := l) (k := k) (by omega)
  have htk : l.take (k + 1) = l.take k ++ [l[k]!] := by rw [getD_any (by omega),List.take_succ_eq_append_getElem (by omega)]
  have hsub : ∀ y,y ∈ l.take (k + 1) → y ∈ l.take n := fun y hy => (List.take_sublist_take_left (show k + 1 ≤ n by omega)).mem hy
  simp(maxSteps:=9^9)only[↓VX,VQ,seval,hm,hdr]
  repeat'(first|intro _|apply And.intro)
  all_goals try first|omega|(simp only[LL];omega)|exact nlC (by decide) _|exact nbC rfl
  ·have q : x = l[k]! := by assumption
   exact ⟨_,rfl,fun _ => hsub x (by rw [htk,q]; simp),fun _ => by omega⟩
  ·have q : ¬ x = l[k]! := by assumption
   refine ⟨k + 1,⟨by omega,by rw [htk]; simp only [List.mem_append,List.mem_singleton,not_or]; exact ⟨hx,q⟩⟩,by dsimp only; omega,?_⟩
   (simp only [FE,↓FP,seval])
   try simp
 ·simp(maxSteps:=9^9)only[↓VX,VQ,seval,hm]
  repeat'(first|intro _|apply And.intro)
  all_goals try first|omega|(simp only[LL];omega)|exact nlC (by decide) _|exact nbC rfl
  have hkn : k = n := by omega
  subst hkn
  first | exact hx | exact ⟨fun h => absurd h (by decide),fun h => absurd h hx⟩ | (simp; exact hx)
theorem containsM_c (b n cap : Nat) (l : List Int) (x : Int) (hn : n ≤ l.length) (hl : l.length ≤ 1000) (hc : n ≤ cap) (m : Mem) (hm : m b = some (.cells (l.map (AV.int .i64)))) :
  ACall Try.prog 28 [.mslice b 0 n cap,.int .i64 x] m fun r m' => r = .bool (decide (x ∈ l.take n)) ∧ m' = m := by
 have h := indexM_c b n cap l x hn hl hc m hm
 (refine acall_intro (E := env fun _ => .imm) (envOk _) rfl Try.func28 rfl Try.call28 (by kernel_rfl) (by simp [Try.ntmps28]) ?_; simp only [Try.f28];  simp(maxSteps:=9^9)only[↓VX,VQ,seval])
 refine h.mono ?_
 rintro r m' ⟨⟨v,rfl,hv⟩,rfl⟩
 simp(maxSteps:=9^9)only[↓VX,VQ,seval]
 repeat'(first|intro _|apply And.intro)
 rw [decide_eq_decide.2 hv]
theorem days_both {h : RHarb} (hh : HOk h) {l : List Fate} (hl : FOk h l) {s : Nat} (hs : s < h.ships.length) (port : Int) :
  (dayR h l s port = -1 ∧ dayN h (fun i => l[i]!) s port = 61) ∨ ((0 ≤ dayR h l s port ∧ dayR h l s port ≤ 43) ∧ dayN h (fun i => l[i]!) s port = dayR h l s port) := by
 have hso := hh.ship s hs
 have hcall := hso.call
 have hsa := hso.sails
 have hla := hl.late s (by rw [hl.n]; exact hs)
 have hma := hl.made s (by rw [hl.n]; exact hs)
 have hat : atC (h.ships[s]!).calls port = -1 ∨ ∃ k,k < (h.ships[s]!).calls.length ∧ atC (h.ships[s]!).calls port = (k : Int) := idxL_cases _ _
 have e1 : dayN h (fun i => l[i]!) s port = if atC (h.ships[s]!).calls port < 0 ∨ (l[s]!).made ≤ atC (h.ships[s]!).calls port then 61 else (h.ships[s]!).sails + ((h.ships[s]!).calls[(atC (h.ships[s]!).calls port).toNat]!).after + (l[s]!).late := rfl
 have e2 : dayR h l s port = if atC (h.ships[s]!).calls port < 0 ∨ (l[s]!).made ≤ atC (h.ships[s]!).calls port then -1 else (h.ships[s]!).sails + ((h.ships[s]!).calls[(atC (h.ships[s]!).calls port).toNat]!).after + (l[s]!).late := rfl
 by_cases q : atC (h.ships[s]!).calls port < 0 ∨ (l[s]!).made ≤ atC (h.ships[s]!).calls port
 ·rw [if_pos q] at e1 e2
  exact .inl ⟨e2,e1⟩
 ·rw [if_neg q] at e1 e2
  refine .inr ⟨?_,by rw [e1,e2]⟩
  obtain ⟨k,hk,hAk⟩ := hat.resolve_left (by omega)
  obtain ⟨c1,c2,_⟩ := hcall k hk
  rw [hAk,Int.toNat_natCast] at e2
  omega
theorem dayN_R {h : RHarb} (hh : HOk h) {l : List Fate} (hl : FOk h l) {s : Nat} (hs : s < h.ships.length) (port : Int) : dayN h (fun i => l[i]!) s port = if dayR h l s port < 0 then 61 else dayR h l s port := by
 rcases days_both hh hl hs port with ⟨h1,h2⟩ | ⟨h1,h2⟩
 ·rw [h1,h2]; rfl
 ·rw [if_neg (by omega),h2]
theorem dayR_le {h : RHarb} (hh : HOk h) {l : List Fate} (hl : FOk h l) {s : Nat} (hs : s < h.ships.length) (port : Int) : -1 ≤ dayR h l s port ∧ dayR h l s port ≤ 43 := by
 rcases days_both hh hl hs port with ⟨h1,h2⟩ | ⟨h1,h2⟩ <;> omega
def soN (r : RRep) (d : Int) : Bool := if r.kind = 0 ∨ r.kind = 2 then decide (d = r.day) else decide (r.day < d)
theorem so_eq {r : RRep} (hr : 0 ≤ r.day ∧ r.day ≤ 60) {d : Int} (hd : -1 ≤ d ∧ d ≤ 43) : soN r (if d < 0 then 61 else d) = soB r d := by
 unfold soN soB untilB
 by_cases q : r.kind = 0 ∨ r.kind = 2
 ·rw [if_pos q,if_pos q]
  rw [decide_eq_decide]
  split <;> omega
 ·rw [if_neg q,if_neg q]
  by_cases q1 : d < 0
  ·rw [if_pos q1]
   rw [decide_eq_true (by omega),decide_eq_false (by omega)]; rfl
  ·rw [if_neg q1]
   rw [decide_eq_true (show 0 ≤ d by omega),Bool.true_and,← decide_not,decide_eq_decide]
   omega
def ofN (h : RHarb) (k b i : Nat) : Bool := decide (2 ≤ (h.reports[i]!).kind) && (decide ((h.reports[i]!).of_ = (k : Int)) && !b.testBit i)
def repsN (h : RHarb) (f : Nat → Fate) (k b s n : Nat) : Bool := (List.range n).all fun i => !ofN h k b i || soN (h.reports[i]!) (dayN h f s (h.letters[k]!).port)
def loadB (h : RHarb) (f : Nat → Fate) (k b n s : Nat) : Bool := shipB h k s && repsN h f k b s n
def loadS (h : RHarb) (f : Nat → Fate) (b n k : Nat) : Nat := setOf (loadB h f k b n) h.ships.length
def ofSN (h : RHarb) (b i : Nat) : Bool := decide ((h.reports[i]!).kind < 2) && !b.testBit i
def saidN (h : RHarb) (f : Nat → Fate) (b n : Nat) : Bool := (List.range n).all fun i => !ofSN h b i || soN (h.reports[i]!) (dayN h f (h.reports[i]!).of_.toNat (h.reports[i]!).port)
theorem mem_listTo {s n i : Nat} (h : i < n) : (i : Int) ∈ listTo s n ↔ s.testBit i = true := by
 unfold listTo
 simp only [List.mem_map,List.mem_filter,List.mem_range]
 constructor
 ·rintro ⟨j,⟨h1,h2⟩,h3⟩
  have : j = i := by omega
  subst this; exact h2
 ·intro q; exact ⟨i,⟨h,q⟩,rfl⟩
theorem not_mem_listTo {s n i : Nat} (h : i < n) : decide ((i : Int) ∉ listTo s n) = !s.testBit i := by
 by_cases q : s.testBit i = true
 ·have c : ¬ ¬ (i : Int) ∈ listTo s n := fun c => c ((mem_listTo h).2 q)
  rw [q,decide_eq_false c]; rfl
 ·have c : ¬ (i : Int) ∈ listTo s n := fun c => q ((mem_listTo h).1 c)
  rw [decide_eq_true c,Bool.eq_false_iff.2 q]; rfl
theorem all_congr {n : Nat} {f g : Nat → Bool} (h : ∀ i,i < n → f i = g i) : (List.range n).all f = (List.range n).all g := by
 rw [Bool.eq_iff_iff,List.all_eq_true,List.all_eq_true]
 constructor
 ·intro q i hi; rw [← h i (List.mem_range.1 hi)]; exact q i hi
 ·intro q i hi; rw [h i (List.mem_range.1 hi)]; exact q i hi
theorem load_can {h : RHarb} (hh : HOk h) {l : List Fate} (hl : FOk h l) (b k : Nat) {s : Nat} (hs : s < h.ships.length) :
  loadB h (fun i => l[i]!) k b h.reports.length s = canB h l k (listTo b h.reports.length) s := by
 unfold loadB canB repsN repsB
 congr 1
 refine all_congr fun i hi => ?_
 have hr := (hh.report i hi).2.2.2
 unfold ofN ofB
 rw [not_mem_listTo hi,dayN_R hh hl hs,so_eq hr (dayR_le hh hl hs _)]
theorem said_same {h : RHarb} (hh : HOk h) {l : List Fate} (hl : FOk h l) (b : Nat) :
  saidN h (fun i => l[i]!) b h.reports.length = saidB h l (listTo b h.reports.length) h.reports.length := by
 unfold saidN saidB
 refine all_congr fun i hi => ?_
 have hr := hh.report i hi
 unfold ofSN ofS
 rw [not_mem_listTo hi]
 by_cases q : (h.reports[i]!).kind < 2
 ·have ho := hr.2.1
  rw [if_pos q] at ho
  rw [dayN_R hh hl (show (h.reports[i]!).of_.toNat < h.ships.length by omega),so_eq hr.2.2.2 (dayR_le hh hl (by omega) _)]
 ·rw [decide_eq_false q]; simp
theorem load_list {h : RHarb} (hh : HOk h) {l : List Fate} (hl : FOk h l) (b k : Nat) : listTo (loadS h (fun i => l[i]!) b h.reports.length k) h.ships.length = couldL h l k (listTo b h.reports.length) h.ships.length := by
 unfold couldL
 conv => lhs; unfold listTo
 congr 1
 refine List.filter_congr fun s hs => ?_
 have hs' := List.mem_range.1 hs
 rw [← load_can hh hl b k hs']
 unfold loadS
 rw [setOf_bit,decide_eq_true hs',Bool.true_and]
theorem part3 {cs : Array Value} {off : Nat} {v : Value} (h : cs[off]? = some v) (w : World) : (part 3 cs off).run Try.prog w = .ok v w := by
 unfold part
 rw [Sem.run_bind,tyok_3.agg w]
 simp [TyI.agg,h]
theorem eqInt3 (d : Nat) (a b : Int) (w : World) : (Op.equalIn (d + 1) 3 (.int .i64 a) (.int .i64 b)).run Try.prog w = .ok (decide (a = b)) w := by
 rw [run_equalIn_int w d 3 .i64 .i64 a b (by kernel_rfl)]
 by_cases h : a = b <;> simp [h]
theorem eqStep {d : Nat} {xs ys : Array Value} {f : Field} {fs : List Field} {a b : Int} {R : Bool} {w : World} (hn : f.name ≠ "_") (ht : f.type = 3) (hx : xs[f.offset]? = some (.int .i64 a)) (hy : ys[f.offset]? = some (.int .i64 b))
  (hr : (Op.eqFields (d + 1) xs ys fs).run Try.prog w = .ok R w) : (Op.eqFields (d + 1) xs ys (f :: fs)).run Try.prog w = .ok (decide (a = b) && R) w := by
 unfold Op.eqFields
 rw [if_pos hn,ht,Sem.run_bind,part3 hx,Result.andThen_ok,Sem.run_bind,part3 hy,Result.andThen_ok,Sem.run_bind,eqInt3,Result.andThen_ok]
 by_cases h : a = b
 ·simp [h,hr]
 ·simp [h]
theorem eqFlat135 (a b a' b' : Int) : EqFlat Try.prog 135 [.int .i64 a,.int .i64 b] [.int .i64 a',.int .i64 b'] (decide (a = a') && (decide (b = b') && true)) := by
 intro vs vs' com w x y h h'
 obtain ⟨v1,vs,rfl,r1,h⟩ := Reps.cons_inv h
 obtain ⟨v2,vs,rfl,r2,h⟩ := Reps.cons_inv h
 obtain rfl := Reps.nil_inv h
 obtain ⟨u1,us,rfl,s1,h'⟩ := Reps.cons_inv h'
 obtain ⟨u2,us,rfl,s2,h'⟩ := Reps.cons_inv h'
 obtain rfl := Reps.nil_inv h'
 obtain rfl := rep_int r1; obtain rfl := rep_int r2
 obtain rfl := rep_int s1; obtain rfl := rep_int s2
 have hg : Try.prog.eqGuardType Try.prog.depth 135 = false := by kernel_rfl
 have hu : Try.prog.underlying 135 = some (.struct (Try.prog.fieldsOf 135)) := by kernel_rfl
 have hs : Try.prog.stoodInHeld 135 = false := by kernel_rfl
 have key : (Op.equalIn 10000 135 (.agg #[.int .i64 a,.int .i64 b]) (.agg #[.int .i64 a',.int .i64 b'])).run Try.prog w =
   .ok (decide (a = a') && (decide (b = b') && true)) w := by
  rw [run_equalIn_agg w 9999 135 _ _ hu hs]
  simp only [Program.fieldsOf,Try.underlying135]
  exact eqStep (by decide) rfl rfl rfl (eqStep (by decide) rfl rfl rfl (by simp [Op.eqFields]))
 constructor
 ·rw [Sem.run_bind,run_eqGuard_agg w .eql 135 x y _ _ hg,Result.andThen_ok,run_eql_struct,key]; rfl
 ·rw [Sem.run_bind,run_eqGuard_agg w .neq 135 x y _ _ hg,Result.andThen_ok,run_neq_struct,key]; rfl
theorem part135 (cs : Array Value) (off : Nat) (w : World) : (part 135 cs off).run Try.prog w = .ok (.agg (cs.extract off (off + 2))) w := by
 unfold part
 rw [Sem.run_bind,tyok_135.agg w]
 simp [TyI.agg,Sem.run_bind,tyok_135.size w]
theorem eqFate (a b a' b' : Int) (w : World) : (Op.equalIn 9999 135 (.agg #[.int .i64 a,.int .i64 b]) (.agg #[.int .i64 a',.int .i64 b'])).run Try.prog w = .ok (decide (a = a') && (decide (b = b') && true)) w := by
 have hu : Try.prog.underlying 135 = some (.struct (Try.prog.fieldsOf 135)) := by kernel_rfl
 have hs : Try.prog.stoodInHeld 135 = false := by kernel_rfl
 rw [run_equalIn_agg w 9998 135 _ _ hu hs]
 simp only [Program.fieldsOf,Try.underlying135]
 exact eqStep (by decide) rfl rfl rfl (eqStep (by decide) rfl rfl rfl (by simp [Op.eqFields]))
theorem eqFleet (a b c d e f a' b' c' d' e' f' : Int) (w : World) : (Op.equalIn 10000 137 (.agg #[.int .i64 a,.int .i64 b,.int .i64 c,.int .i64 d,.int .i64 e,.int .i64 f]) (.agg #[.int .i64 a',.int .i64 b',.int .i64 c',.int .i64 d',.int .i64 e',.int .i64 f'])).run Try.prog w = .ok ((decide (a = a') && decide (b = b')) && ((decide (c = c') && decide (d = d')) && (decide (e = e') && decide (f = f')))) w := by
 have hsz : (sizeOf 135).run Try.prog w = .ok 2 w := tyok_135.size w
 have p0 := part135 #[.int .i64 a,.int .i64 b,.int .i64 c,.int .i64 d,.int .i64 e,.int .i64 f] 0 w
 have p1 := part135 #[.int .i64 a,.int .i64 b,.int .i64 c,.int .i64 d,.int .i64 e,.int .i64 f] 2 w
 have p2 := part135 #[.int .i64 a,.int .i64 b,.int .i64 c,.int .i64 d,.int .i64 e,.int .i64 f] 4 w
 have t0 := part135 #[.int .i64 a',.int .i64 b',.int .i64 c',.int .i64 d',.int .i64 e',.int .i64 f'] 0 w
 have t1 := part135 #[.int .i64 a',.int .i64 b',.int .i64 c',.int .i64 d',.int .i64 e',.int .i64 f'] 2 w
 have t2 := part135 #[.int .i64 a',.int .i64 b',.int .i64 c',.int .i64 d',.int .i64 e',.int .i64 f'] 4 w
 simp at p0 p1 p2 t0 t1 t2
 have q0 := eqFate a b a' b' w
 have q1 := eqFate c d c' d' w
 have q2 := eqFate e f e' f' w
 rw [show (10000 : Nat) = 9999 + 1 from rfl,Op.equalIn]
 generalize hE : Op.equalIn 9999 = E
 rw [hE] at q0 q1 q2
 simp only [Bool.and_true] at q0 q1 q2
 simp only [Sem.run_bind,run_underlying Try.underlying137,Result.andThen_ok,hsz]
 simp only [Std.Legacy.Range.forIn_eq_forIn_range',Std.Legacy.Range.size,Nat.sub_zero,Nat.add_sub_cancel,Nat.div_one,List.range'_succ,List.range'_zero,List.forIn_cons,List.forIn_nil,Nat.zero_add,Nat.reduceAdd,Nat.zero_mul,Nat.one_mul,Nat.reduceMul,Sem.run_bind,p0,p1,p2,t0,t1,t2,q0,q1,q2,Result.andThen_ok,Sem.run_ite,Sem.run_pure]
 clear hE
 generalize (decide (a = a') && decide (b = b')) = A at *
 generalize (decide (c = c') && decide (d = d')) = B at *
 generalize (decide (e = e') && decide (f = f')) = C at *
 cases A <;> cases B <;> cases C <;> simp_all
theorem eqFlat137 (a b c d e f a' b' c' d' e' f' : Int) : EqFlat Try.prog 137 [.int .i64 a,.int .i64 b,.int .i64 c,.int .i64 d,.int .i64 e,.int .i64 f] [.int .i64 a',.int .i64 b',.int .i64 c',.int .i64 d',.int .i64 e',.int .i64 f'] ((decide (a = a') && decide (b = b')) && ((decide (c = c') && decide (d = d')) && (decide (e = e') && decide (f = f')))) := by
 intro vs vs' com w x y h h'
 obtain ⟨v1,vs,rfl,r1,h⟩ := Reps.cons_inv h
 obtain ⟨v2,vs,rfl,r2,h⟩ := Reps.cons_inv h
 obtain ⟨v3,vs,rfl,r3,h⟩ := Reps.cons_inv h
 obtain ⟨v4,vs,rfl,r4,h⟩ := Reps.cons_inv h
 obtain ⟨v5,vs,rfl,r5,h⟩ := Reps.cons_inv h
 obtain ⟨v6,vs,rfl,r6,h⟩ := Reps.cons_inv h
 obtain rfl := Reps.nil_inv h
 obtain ⟨u1,us,rfl,s1,h'⟩ := Reps.cons_inv h'
 obtain ⟨u2,us,rfl,s2,h'⟩ := Reps.cons_inv h'
 obtain ⟨u3,us,rfl,s3,h'⟩ := Reps.cons_inv h'
 obtain ⟨u4,us,rfl,s4,h'⟩ := Reps.cons_inv h'
 obtain ⟨u5,us,rfl,s5,h'⟩ := Reps.cons_inv h'
 obtain ⟨u6,us,rfl,s6,h'⟩ := Reps.cons_inv h'
 obtain rfl := Reps.nil_inv h'
 obtain rfl := rep_int r1; obtain rfl := rep_int r2; obtain rfl := rep_int r3; obtain rfl := rep_int r4; obtain rfl := rep_int r5; obtain rfl := rep_int r6
 obtain rfl := rep_int s1; obtain rfl := rep_int s2; obtain rfl := rep_int s3; obtain rfl := rep_int s4; obtain rfl := rep_int s5; obtain rfl := rep_int s6
 have hg : Try.prog.eqGuardType Try.prog.depth 137 = false := by kernel_rfl
 have key := eqFleet a b c d e f a' b' c' d' e' f' w
 constructor
 ·rw [Sem.run_bind,run_eqGuard_agg w .eql 137 x y _ _ hg,Result.andThen_ok,run_eql_struct,key]; rfl
 ·rw [Sem.run_bind,run_eqGuard_agg w .neq 137 x y _ _ hg,Result.andThen_ok,run_neq_struct,key]; rfl
def keyA (l : List Fate) : AV := fleetA fun i => l[i]!
def keyV (l : List Fate) : Value := .agg #[.int .i64 (l[0]!).late,.int .i64 (l[0]!).made,.int .i64 (l[1]!).late,.int .i64 (l[1]!).made,.int .i64 (l[2]!).late,.int .i64 (l[2]!).made]
theorem rep_key {com : Nat → Nat} {w : World} {l : List Fate} {v : Value} (h : Rep com w (keyA l) v) : v = keyV l := by
 cases h with
 | agg _ vs hl h =>
  have hr : Reps com w (fleetL fun i => l[i]!) vs := ⟨hl,h⟩
  unfold fleetL at hr
  obtain ⟨v1,vs,rfl,r1,hr⟩ := Reps.cons_inv hr
  obtain ⟨v2,vs,rfl,r2,hr⟩ := Reps.cons_inv hr
  obtain ⟨v3,vs,rfl,r3,hr⟩ := Reps.cons_inv hr
  obtain ⟨v4,vs,rfl,r4,hr⟩ := Reps.cons_inv hr
  obtain ⟨v5,vs,rfl,r5,hr⟩ := Reps.cons_inv hr
  obtain ⟨v6,vs,rfl,r6,hr⟩ := Reps.cons_inv hr
  obtain rfl := Reps.nil_inv hr
  obtain rfl := rep_int r1; obtain rfl := rep_int r2; obtain rfl := rep_int r3; obtain rfl := rep_int r4; obtain rfl := rep_int r5; obtain rfl := rep_int r6
  rfl
theorem key_eq {l l' : List Fate} (h3 : l.length ≤ 3) (hl : l.length = l'.length) : ((decide ((l[0]!).late = (l'[0]!).late) && decide ((l[0]!).made = (l'[0]!).made)) && ((decide ((l[1]!).late = (l'[1]!).late) && decide ((l[1]!).made = (l'[1]!).made)) && (decide ((l[2]!).late = (l'[2]!).late) && decide ((l[2]!).made = (l'[2]!).made)))) = decide (l = l') := by
 rw [Bool.eq_iff_iff]
 simp only [Bool.and_eq_true,decide_eq_true_eq]
 constructor
 ·rintro ⟨⟨a1,a2⟩,⟨b1,b2⟩,c1,c2⟩
  refine List.ext_getElem hl fun i h1 h2 => ?_
  have hi : i = 0 ∨ i = 1 ∨ i = 2 := by omega
  have e : l[i]! = l'[i]! := by
   rcases hi with rfl | rfl | rfl
   ·cases hx : l[0]!; cases hy : l'[0]!; simp_all
   ·cases hx : l[1]!; cases hy : l'[1]!; simp_all
   ·cases hx : l[2]!; cases hy : l'[2]!; simp_all
  rwa [getD_any h1,getD_any h2] at e
 ·rintro rfl; simp
theorem equal_key (l l' : List Fate) (h3 : l.length ≤ 3) (hl : l.length = l'.length) (w : World) : (Op.equal 137 (keyV l) (keyV l')).run Try.prog w = .ok (decide (l = l')) w := by
 rw [← key_eq h3 hl]
 exact eqFleet _ _ _ _ _ _ _ _ _ _ _ _ w
theorem find_asking (V : List Fate → AV) {n : Nat} (h3 : n ≤ 3) {x : List Fate} (hx : x.length = n) {com : Nat → Nat} {w : World} : ∀ (ls : List (List Fate)) (es : List MapEntry) (i : Nat),(∀ l ∈ ls,l.length = n) → ls.length = es.length →
  (∀ (i : Nat) (l : List Fate) (m : MapEntry),ls[i]? = some l → es[i]? = some m → Rep com w (keyA l) m.key ∧ Rep com w (V l) m.val) →
  if x ∈ ls then ∃ j v,(Instr.findAsking 137 (keyV x) es i).run Try.prog w = .ok (some (j,v)) w ∧ Rep com w (V x) v else (Instr.findAsking 137 (keyV x) es i).run Try.prog w = .ok none w
 | [],[],i,_,_,_ => by simp [Instr.findAsking]
 | [],_ :: _,_,_,hl,_ => by simp at hl
 | _ :: _,[],_,_,hl,_ => by simp at hl
 | l :: ls,e :: es,i,hn,hl,hr => by
  have ih := find_asking V h3 hx ls es (i + 1) (fun y hy => hn y (by simp [hy])) (by simpa using hl) (fun j y m h1 h2 => hr (j + 1) y m (by simpa using h1) (by simpa using h2))
  have h0 := hr 0 l e rfl rfl
  have hk := rep_key h0.1
  have hln := hn l (by simp)
  have he := equal_key x l (by omega) (by omega) w
  have key : (Instr.findAsking 137 (keyV x) (e :: es) i).run Try.prog w = if x = l then .ok (some (i,e.val)) w else (Instr.findAsking 137 (keyV x) es (i + 1)).run Try.prog w := by
   rw [Instr.findAsking,hk,Sem.run_bind,he,Result.andThen_ok]
   by_cases q : x = l
   ·simp [q]
   ·simp [q]
  by_cases q : x = l
  ·subst q
   rw [if_pos (by simp)]
   exact ⟨i,e.val,by rw [key,if_pos rfl],h0.2⟩
  ·rw [key,if_neg q]
   have : (x ∈ l :: ls) ↔ x ∈ ls := by simp [q]
   simp only [this]
   exact ih
theorem chk3 (e : Bool) (n : Nat) (a : Int) (w : World) : (Instr.checkKey e (n + 1) 3 (.int .i64 a)).run Try.prog w = .ok () w := by
 rw [Instr.checkKey,Sem.run_bind,run_underlying Try.underlying3,Result.andThen_ok]
 rfl
theorem chk135 (e : Bool) (n : Nat) (a b : Int) (w : World) : (Instr.checkKey e (n + 2) 135 (.agg #[.int .i64 a,.int .i64 b])).run Try.prog w = .ok () w := by
 have p0 := part3 (cs := #[Value.int .i64 a,.int .i64 b]) (off := 0) rfl w
 have p1 := part3 (cs := #[Value.int .i64 a,.int .i64 b]) (off := 1) rfl w
 have q0 := chk3 e n a w
 have q1 := chk3 e n b w
 rw [Instr.checkKey,Sem.run_bind,run_underlying Try.underlying135,Result.andThen_ok]
 simp [Sem.run_bind,p0,p1,q0,q1,Result.andThen_ok]
theorem chk137 (e : Bool) (x : List Fate) (w : World) : (Instr.checkKey e 10000 137 (keyV x)).run Try.prog w = .ok () w := by
 have hsz : (sizeOf 135).run Try.prog w = .ok 2 w := tyok_135.size w
 have p0 := fun cs => part135 cs 0 w
 have p1 := fun cs => part135 cs 2 w
 have p2 := fun cs => part135 cs 4 w
 have q := fun a b => chk135 e 9997 a b w
 unfold keyV
 rw [show (10000 : Nat) = 9999 + 1 from rfl,Instr.checkKey,Sem.run_bind,run_underlying Try.underlying137,Result.andThen_ok]
 rw [show (9997 : Nat) + 2 = 9999 from rfl] at q
 generalize hE : Instr.checkKey e 9999 = E
 rw [hE] at q
 simp only [Std.Legacy.Range.forIn_eq_forIn_range',Std.Legacy.Range.size,Nat.sub_zero,Nat.add_sub_cancel,Nat.div_one,List.range'_succ,List.range'_zero,List.forIn_cons,List.forIn_nil,Nat.zero_add,Nat.reduceAdd,Nat.zero_mul,Nat.one_mul,Nat.reduceMul,Sem.run_bind,hsz,p0,p1,p2,Result.andThen_ok,Sem.run_pure]
 simp [q,p0,p1,p2,hsz,Sem.run_bind,Sem.run_pure,Result.andThen_ok]
theorem agg_find (V : List Fate → AV) {n : Nat} (h3 : n ≤ 3) {x : List Fate} (hx : x.length = n) (ls : List (List Fate)) (hn : ∀ l ∈ ls,l.length = n) :
  AggFinds Try.prog 137 (keyA x) (ls.map fun l => (keyA l,V l)) (if x ∈ ls then some (V x) else none) := by
 intro com w vk es hv hlen hr
 obtain rfl := rep_key hv
 refine ⟨?_,?_⟩
 ·exact fun e => chk137 e x w
 ·have h := find_asking V h3 hx (com := com) (w := w) ls es 0 hn (by simpa using hlen) (fun i l m h1 h2 => hr i _ _ m (by rw [List.getElem?_map,h1]; rfl) h2)
  have hf := run_findKey_eq (P := Try.prog) (w := w) (k := 137) (by simp [Try.underlying137]) (keyV x) es
  by_cases q : x ∈ ls
  ·rw [if_pos q] at h ⊢
   simp only [hf]
   exact h
  ·rw [if_neg q] at h ⊢
   simp only [hf]
   exact h
def nL (f : Nat → Int) (n : Nat) : List AV := (List.range n).map fun g => .int .i64 (f g)
theorem nL_length (f : Nat → Int) (n : Nat) : (nL f n).length = n := by simp [nL]
theorem nL_drop {f : Nat → Int} {n k : Nat} (hf : k < n) : (nL f n).drop k = .int .i64 (f k) :: (nL f n).drop (k + 1) := by
 rw [List.drop_eq_getElem_cons (by rw [nL_length]; exact hf)]
 simp [nL]
theorem nL_over {f : Nat → Int} {n k : Nat} (hf : k < n) (x : Int) : (nL f n).take k ++ [.int .i64 x] ++ (nL f n).drop (k + 1) = nL (fun g => if g = k then x else f g) n := by
 apply List.ext_getElem
 ·simp [nL_length]; omega
 ·intro i h1 h2
  rw [nL_length] at h2
  simp only [List.getElem_append,List.length_append,List.length_take,nL_length,List.length_cons,List.length_nil]
  have hm : min k n = k := by omega
  split
  ·rename_i h3
   split
   ·rename_i h4
    have : i ≠ k := by omega
    simp [nL,this]
   ·rename_i h4
    have : i = k := by omega
    subst this
    simp [nL,hm]
  ·rename_i h3
   have : i ≠ k := by omega
   simp [nL,this,hm]
   congr 1; omega
theorem nL_congr {f f' : Nat → Int} {n : Nat} (e : ∀ g,g < n → f g = f' g) : nL f n = nL f' n := by
 unfold nL
 exact List.map_congr_left fun g hg => by rw [e g (List.mem_range.1 hg)]
theorem nL_set {f f' : Nat → Int} {n k : Nat} (hk : k < n) {x : Int} (h0 : f' k = x) (h : ∀ g,g < n → g ≠ k → f' g = f g) : (nL f n).take k ++ .int .i64 x :: (nL f n).drop (k + 1) = nL f' n := by
 have := nL_over (f := f) hk x
 rw [List.append_assoc] at this
 rw [show AV.int .i64 x :: (nL f n).drop (k + 1) = [AV.int .i64 x] ++ (nL f n).drop (k + 1) from rfl,this]
 refine nL_congr fun g hg => ?_
 by_cases q : g = k
 ·rw [if_pos q,q,h0]
 ·rw [if_neg q,h g hg q]
theorem nL_set' {f f' : Nat → Int} {n k : Nat} (hk : k < n) {x : Int} (h0 : f' k = x) (h : ∀ g,g < n → g ≠ k → f' g = f g) : (nL f n).take k ++ [.int .i64 x] ++ (nL f n).drop (k + 1) = nL f' n := by
 have := nL_set hk h0 h
 rw [List.append_assoc]; exact this
theorem nL_ints (f : Nat → Int) (n : Nat) : nL f n = ((List.range n).map f).map (AV.int .i64) := by
 simp [nL]
def loadK (h : RHarb) (b : Nat) (l : List Fate) (n k : Nat) : Int := if k < h.letters.length then ((loadS h (fun i => l[i]!) b n k : Nat) : Int) else 0
def loadsV (h : RHarb) (b : Nat) (l : List Fate) : AV := .agg (nL (loadK h b l h.reports.length) 4)
def loadsOk (h : RHarb) (b : Nat) (l : List Fate) : Bool := saidN h (fun i => l[i]!) b h.reports.length && (List.range h.letters.length).all fun k => decide (loadS h (fun i => l[i]!) b h.reports.length k ≠ 0)
def knownKv (h : RHarb) (b : Nat) (ls : List (List Fate)) : List (AV × AV) := ls.map fun l => (keyA l,loadsV h b l)
theorem known_find {h : RHarb} (h3 : h.ships.length ≤ 3) (b : Nat) {l : List Fate} (hl : l.length = h.ships.length) (ls : List (List Fate)) (hn : ∀ x ∈ ls,x.length = h.ships.length) :
  AggFinds Try.prog 137 (keyA l) (knownKv h b ls) (if l ∈ ls then some (loadsV h b l) else none) := agg_find (loadsV h b) h3 hl ls hn
theorem knownKv_add (h : RHarb) (b : Nat) (ls : List (List Fate)) (l : List Fate) : knownKv h b (ls ++ [l]) = knownKv h b ls ++ [(keyA l,loadsV h b l)] := by simp [knownKv]
theorem setOf_ext {f g : Nat → Bool} {n : Nat} (e : ∀ i,i < n → f i = g i) : setOf f n = setOf g n := by
 refine Nat.eq_of_testBit_eq fun i => ?_
 rw [setOf_bit,setOf_bit]
 by_cases q : i < n
 ·rw [e i q]
 ·rw [decide_eq_false q]; rfl
theorem setOf_not {f : Nat → Bool} {n s : Nat} : natAndNot (setOf f n) (2 ^ s) = setOf (fun t => f t && !decide (t = s)) n := by
 refine Nat.eq_of_testBit_eq fun i => ?_
 rw [natAndNot_bit,setOf_bit,setOf_bit,Nat.testBit_two_pow,Bool.and_assoc]
 congr 2
 rw [Bool.eq_iff_iff]; simp; omega
def firstK (h : RHarb) (i s k : Nat) : Int := if k < i then ((setOf (shipB h k) h.ships.length : Nat) : Int) else if k = i then ((setOf (shipB h k) s : Nat) : Int) else 0
theorem firstK_next (h : RHarb) (i : Nat) : firstK h i h.ships.length = firstK h (i + 1) 0 := by
 funext k
 unfold firstK
 by_cases q : k < i
 ·rw [if_pos q,if_pos (by omega)]
 ·rw [if_neg q]
  by_cases q2 : k = i
  ·rw [if_pos q2,if_pos (by omega)]
  ·rw [if_neg q2,if_neg (by omega)]
   split <;> simp [setOf]
theorem firstK_zero (h : RHarb) : firstK h 0 0 = fun _ => 0 := by
 funext k
 unfold firstK
 rw [if_neg (by omega)]
 split <;> simp [setOf]
theorem firstK_load (h : RHarb) (b : Nat) (l : List Fate) : firstK h h.letters.length 0 = loadK h b l 0 := by
 funext k
 unfold firstK loadK
 by_cases q : k < h.letters.length
 ·rw [if_pos q,if_pos q]
  have e : setOf (shipB h k) h.ships.length = loadS h (fun i => l[i]!) b 0 k := by
   unfold loadS loadB repsN
   exact setOf_ext fun i _ => by simp
  rw [e]
 ·rw [if_neg q,if_neg q]
  split <;> simp [setOf]
theorem firstK_other {h : RHarb} {i s k : Nat} (q : k ≠ i) : firstK h i (s + 1) k = firstK h i s k := by
 unfold firstK
 by_cases q2 : k < i
 ·rw [if_pos q2,if_pos q2]
 ·rw [if_neg q2,if_neg q2,if_neg q,if_neg q]
theorem firstK_at {h : RHarb} {i s : Nat} : firstK h i s i = ((setOf (shipB h i) s : Nat) : Int) := by
 unfold firstK
 rw [if_neg (by omega),if_pos rfl]
theorem cast_eq {a b : Nat} (h : a = b) : (a : Int) = (b : Int) := by rw [h]
def midB (h : RHarb) (f : Nat → Fate) (b n s k t : Nat) : Bool := loadB h f k b n t && (!decide (t < s) || (!ofN h k b n || soN (h.reports[n]!) (dayN h f t (h.letters[k]!).port)))
def midK (h : RHarb) (b : Nat) (l : List Fate) (n s k : Nat) : Int := if k < h.letters.length then ((setOf (midB h (fun i => l[i]!) b n s k) h.ships.length : Nat) : Int) else 0
theorem midK_zero (h : RHarb) (b : Nat) (l : List Fate) (n : Nat) : midK h b l n 0 = loadK h b l n := by
 funext k
 unfold midK loadK
 split
 ·refine cast_eq ?_
  unfold loadS
  exact setOf_ext fun i _ => by simp [midB]
 ·rfl
theorem repsN_succ (h : RHarb) (f : Nat → Fate) (k b s n : Nat) : repsN h f k b s (n + 1) = (repsN h f k b s n && (!ofN h k b n || soN (h.reports[n]!) (dayN h f s (h.letters[k]!).port))) := by
 unfold repsN
 rw [List.range_succ,List.all_append]
 simp
theorem midK_end (h : RHarb) (b : Nat) (l : List Fate) (n : Nat) : midK h b l n h.ships.length = loadK h b l (n + 1) := by
 funext k
 unfold midK loadK
 split
 ·refine cast_eq ?_
  unfold loadS
  refine setOf_ext fun i hi => ?_
  unfold midB loadB
  rw [decide_eq_true hi,repsN_succ,Bool.and_assoc]
  simp
 ·rfl
theorem loadK_skip {h : RHarb} {b : Nat} {l : List Fate} {n : Nat} (hq : ∀ k,ofN h k b n = false) : loadK h b l (n + 1) = loadK h b l n := by
 funext k
 unfold loadK
 split
 ·refine cast_eq ?_
  unfold loadS
  refine setOf_ext fun i hi => ?_
  unfold loadB
  rw [repsN_succ,hq k]; simp
 ·rfl
theorem midK_other {h : RHarb} {b : Nat} {l : List Fate} {n s k : Nat} (hk : ofN h k b n = false) : midK h b l n (s + 1) k = midK h b l n s k := by
 unfold midK
 split
 ·refine cast_eq ?_
  refine setOf_ext fun i hi => ?_
  unfold midB
  rw [hk]; simp
 ·rfl
theorem midK_keep {h : RHarb} {b : Nat} {l : List Fate} {n s k : Nat} (hq : soN (h.reports[n]!) (dayN h (fun i => l[i]!) s (h.letters[k]!).port) = true) : midK h b l n (s + 1) k = midK h b l n s k := by
 unfold midK
 split
 ·refine cast_eq ?_
  refine setOf_ext fun i hi => ?_
  unfold midB
  by_cases e : i = s
  ·subst e; rw [hq]; simp
  ·have : (i < s + 1) ↔ i < s := by omega
   simp only [this]
 ·rfl
theorem midK_cut {h : RHarb} {b : Nat} {l : List Fate} {n s k : Nat} (hk : k < h.letters.length) (ho : ofN h k b n = true) (hq : soN (h.reports[n]!) (dayN h (fun i => l[i]!) s (h.letters[k]!).port) = false) :
  midK h b l n (s + 1) k = ((natAndNot (setOf (midB h (fun i => l[i]!) b n s k) h.ships.length) (2 ^ s) : Nat) : Int) := by
 unfold midK
 rw [if_pos hk,setOf_not]
 refine cast_eq ?_
 refine setOf_ext fun i hi => ?_
 unfold midB
 by_cases e : i = s
 ·subst e; rw [hq,ho]; simp
 ·have : (i < s + 1) ↔ i < s := by omega
  simp [this,e]
theorem saidN_succ (h : RHarb) (f : Nat → Fate) (b n : Nat) : saidN h f b (n + 1) = (saidN h f b n && (!ofSN h b n || soN (h.reports[n]!) (dayN h f (h.reports[n]!).of_.toNat (h.reports[n]!).port))) := by
 unfold saidN
 rw [List.range_succ,List.all_append]
 simp
theorem saidN_false {h : RHarb} {f : Nat → Fate} {b n : Nat} (hn : n < h.reports.length) (hq : saidN h f b (n + 1) = false) : saidN h f b h.reports.length = false := by
 unfold saidN at *
 rw [List.all_eq_false] at *
 obtain ⟨x,hx,hp⟩ := hq
 exact ⟨x,List.mem_range.2 (by have := List.mem_range.1 hx; omega),hp⟩
theorem loads_none {h : RHarb} (h4 : h.letters.length ≤ 4) {b : Nat} {l : List Fate} : decide ((0 : Int) ∈ ((List.range 4).map (loadK h b l h.reports.length)).take h.letters.length) = !(List.range h.letters.length).all fun k => decide (loadS h (fun i => l[i]!) b h.reports.length k ≠ 0) := by
 rw [← List.map_take,List.take_range,show min h.letters.length 4 = h.letters.length by omega,Bool.eq_iff_iff,decide_eq_true_eq,List.mem_map,Bool.not_eq_true',List.all_eq_false]
 constructor
 ·rintro ⟨k,hk,e⟩
  have hk' := List.mem_range.1 hk
  unfold loadK at e
  rw [if_pos hk'] at e
  exact ⟨k,hk,by rw [decide_eq_true_eq,ne_eq,Classical.not_not]; omega⟩
 ·rintro ⟨k,hk,e⟩
  have hk' := List.mem_range.1 hk
  refine ⟨k,hk,?_⟩
  unfold loadK
  rw [if_pos hk']
  rw [decide_eq_true_eq,ne_eq,Classical.not_not] at e
  rw [e]; rfl
theorem kind_fn {r : RRep} (hr : 0 ≤ r.kind ∧ r.kind ≤ 3) : ∃ g,(∀ x y,∃ rest,List.drop r.kind.toNat [AV.fn (.func 85) [] [],.fn (.func 86) [] [],.fn (.func 85) [] [],.fn (.func 86) [] [],x,y] = .fn (.func g) [] [] :: rest) ∧
  ∀ d,PCall Try.prog g [.int .i64 d,.int .i64 r.day] (.bool (soN r d)) := by
 have hk : r.kind = 0 ∨ r.kind = 1 ∨ r.kind = 2 ∨ r.kind = 3 := by omega
 have h1 : r.kind = 0 ∨ r.kind = 2 → ∀ d,PCall Try.prog 85 [.int .i64 d,.int .i64 r.day] (.bool (soN r d)) := fun q d => by
  have := look1_c d r.day
  unfold soN; rw [if_pos q]; exact this
 have h2 : r.kind = 1 ∨ r.kind = 3 → ∀ d,PCall Try.prog 86 [.int .i64 d,.int .i64 r.day] (.bool (soN r d)) := fun q d => by
  have := look2_c d r.day
  unfold soN; rw [if_neg (by omega)]; exact this
 rcases hk with e | e | e | e
 ·exact ⟨_,fun x y => ⟨_,by rw [e]; rfl⟩,h1 (.inl e)⟩
 ·exact ⟨_,fun x y => ⟨_,by rw [e]; rfl⟩,h2 (.inl e)⟩
 ·exact ⟨_,fun x y => ⟨_,by rw [e]; rfl⟩,h1 (.inr e)⟩
 ·exact ⟨_,fun x y => ⟨_,by rw [e]; rfl⟩,h2 (.inr e)⟩
def Known (h : RHarb) (b bm : Nat) (m : Mem) : Prop := ∃ ls,(∀ x ∈ ls,x.length = h.ships.length ∧ loadsOk h b x = true) ∧ m bm = some (.map (knownKv h b ls))
theorem loads_known (h : RHarb) (hh : HOk h) (b : Nat) (bm : Nat) (l : List Fate) (hl : FOk h l) (ls : List (List Fate)) (hn : ∀ x ∈ ls,x.length = h.ships.length ∧ loadsOk h b x = true) (hin : l ∈ ls) (m : Mem) (hm : m bm = some (.map (knownKv h b ls))) :
  ACall Try.prog 82 [.eptr (lookedL h b bm),keyA l] m fun r m' => r = .tuple [loadsV h b l,.bool true] ∧ m' = m := by
 refine ACall.forget ?_
 have h3 := hh.n
 have hfind := known_find h3 b hl.n ls (fun x hx => (hn x hx).1)
 rw [if_pos hin] at hfind
 have e : loadsV h b l = .agg [.int .i64 (loadK h b l h.reports.length 0),.int .i64 (loadK h b l h.reports.length 1),.int .i64 (loadK h b l h.reports.length 2),.int .i64 (loadK h b l h.reports.length 3)] := rfl
 rw [e] at hfind ⊢
 simp only [lookedL,keyA,fleetA,fleetL] at *
 (refine acall_intro (E := envC (modeAt [6,10,13] [4]) false []) (envCOk _ _ _) rfl Try.func82 rfl Try.call82 (by kernel_rfl) (by simp [Try.ntmps82]) ?_; simp only [Try.f82];  simp(maxSteps:=9^9)only[↓VX,VQ,seval])
 intro b4 hb4
 have hne : bm ≠ b4 := by rintro rfl; rw [hm] at hb4; cases hb4
 have hne' : b4 ≠ bm := fun e => hne e.symm
 repeat'(first|intro _|apply And.intro)
 (refine adraw (by first | exact envOk _ | exact envCOk _ _ _) mixed [⟨true,false,0⟩,⟨true,false,0⟩,⟨true,false,0⟩,⟨true,false,0⟩,⟨true,false,0⟩,⟨true,false,3⟩,⟨true,false,0⟩,⟨true,false,0⟩,⟨true,false,0⟩,⟨true,false,0⟩,⟨false,false,0⟩,⟨false,false,0⟩] (by kernel_rfl) ?_; show vcOpsD _ _ _ (_ :: _) _ _)
 simp(maxSteps:=9^9)only[↓VX,VQ,seval,hm,isLook,hidM,hne,hne']
 refine VFind.of hfind ?_
 simp(maxSteps:=9^9)only[↓VX,VQ,seval]
 refine ⟨m,fun k x hx => ?_,rfl⟩
 have hk : k ≠ b4 := by rintro rfl; rw [hx] at hb4; cases hb4
 rw [if_neg hk,if_neg hk]
 exact hx
theorem loads_new (h : RHarb) (hh : HOk h) (b : Nat) (hb : b < 2 ^ 32) (bm : Nat) (l : List Fate) (hl : FOk h l) (ls : List (List Fate)) (hn : ∀ x ∈ ls,x.length = h.ships.length ∧ loadsOk h b x = true) (hin : l ∉ ls) (m : Mem) (hm : m bm = some (.map (knownKv h b ls))) :
  ACall Try.prog 82 [.eptr (lookedL h b bm),keyA l] m fun r m' =>
   (loadsOk h b l = true ∧ r = .tuple [loadsV h b l,.bool true] ∧ m' = upd m bm (some (.map (knownKv h b (ls ++ [l]))))) ∨
   (loadsOk h b l = false ∧ r = .tuple [.agg [.int .i64 0,.int .i64 0,.int .i64 0,.int .i64 0],.bool false] ∧ m' = m) := by
 refine ACall.forget ?_
 have h3 := hh.n
 have h4 := hh.nl
 have h5 := hh.nr
 have hfind := known_find h3 b hl.n ls (fun x hx => (hn x hx).1)
 rw [if_neg hin] at hfind
 have hload : loadsOk h b l = (saidN h (fun i => l[i]!) b h.reports.length && (List.range h.letters.length).all fun k => decide (loadS h (fun i => l[i]!) b h.reports.length k ≠ 0)) := rfl
 generalize loadsOk h b l = OK at hload ⊢
 have htk := fun (i s : Nat) => takes_c (h.ships[s]!) (h.letters[i]!).port (h.letters[i]!).day
 have hz : [AV.int .i64 0,.int .i64 0,.int .i64 0,.int .i64 0] = nL (firstK h 0 0) 4 := by rw [firstK_zero]; rfl
 have hkv := knownKv_add h b ls l
 have eA : keyA l = .agg [.int .i64 (l[0]!).late,.int .i64 (l[0]!).made,.int .i64 (l[1]!).late,.int .i64 (l[1]!).made,.int .i64 (l[2]!).late,.int .i64 (l[2]!).made] := rfl
 rw [eA] at hfind hkv ⊢
 simp only [lookedL,shipA,shipL] at *
 (refine acall_intro (E := envC (modeAt [6,10,13] [4]) false []) (envCOk _ _ _) rfl Try.func82 rfl Try.call82 (by kernel_rfl) (by simp [Try.ntmps82]) ?_; simp only [Try.f82];  simp(maxSteps:=9^9)only[↓VX,VQ,seval])
 intro b4 hb4
 have hne : bm ≠ b4 := by rintro rfl; rw [hm] at hb4; cases hb4
 have hne' : b4 ≠ bm := fun e => hne e.symm
 repeat'(first|intro _|apply And.intro)
 (refine adraw (by first | exact envOk _ | exact envCOk _ _ _) mixed [⟨true,false,0⟩,⟨true,false,0⟩,⟨true,false,0⟩,⟨true,false,0⟩,⟨true,false,0⟩,⟨true,false,3⟩,⟨true,false,0⟩,⟨true,false,0⟩,⟨true,false,0⟩,⟨true,false,0⟩,⟨false,false,0⟩,⟨false,false,0⟩] (by kernel_rfl) ?_; show vcOpsD _ _ _ (_ :: _) _ _)
 simp(maxSteps:=9^9)only[↓VX,VQ,seval,hm,isLook,hidM,hne,hne']
 refine VFind.of hfind ?_
 simp(maxSteps:=9^9)only[↓VX,VQ,seval]
 repeat'(first|intro _|apply And.intro)
 all_goals try first|omega|(simp only[LL];omega)|exact nlC (by decide) _|exact nbC rfl
 refine aloop (envCOk _ _ _) (fun i : Nat => ⟨[(0,.v (.eptr (lookedL h b bm))),(3,.v (.eptr (fleetL fun i => l[i]!))),(4,.v (.ptr b4 0)),(8,.v (.fn (.func 87) [.eptr (lookedL h b bm)] [])),(32,.v (.slice 3 (h.letters.map letA))),(33,.v (.int .i64 h.letters.length)),(34,.v (.int .i64 i))],[],[],
   upd m b4 (some (.cells (nL (firstK h i 0) 4)))⟩)
  (fun i => i ≤ h.letters.length) (fun i => h.letters.length - i) 0 (fun _ => rfl) (by simp) (by (simp only [FE,↓FP,seval]); rw [← hz]; simp [lookedL,fleetL]) ?_
 intro i hi
 simp only [lookedL,fleetL]
 simp(maxSteps:=9^9)only[↓VX,VQ,seval]
 repeat'(first|intro _|apply And.intro)
 all_goals try first|omega|(simp only[LL];omega)|exact nlC (by decide) _|exact nbC rfl
 ·have hlt : i < h.letters.length := by omega
  refine aloop (envCOk _ _ _) (fun s : Nat => ⟨[(0,.v (.eptr (lookedL h b bm))),(3,.v (.eptr (fleetL fun i => l[i]!))),(4,.v (.ptr b4 0)),(8,.v (.fn (.func 87) [.eptr (lookedL h b bm)] [])),(9,.v (.int .i64 i)),(10,.loc 10 0),
    (32,.v (.slice 3 (h.letters.map letA))),(33,.v (.int .i64 h.letters.length)),(34,.v (.int .i64 i)),(43,.v (.slice 5 (h.ships.map shipA))),(44,.v (.int .i64 h.ships.length)),(45,.v (.int .i64 s))],[],
    [(10,[.int .i64 (h.letters[i]!).port,.int .i64 (h.letters[i]!).day,.int .i64 (h.letters[i]!).ship])],upd m b4 (some (.cells (nL (firstK h i s) 4)))⟩)
   (fun s => s ≤ h.ships.length) (fun s => h.ships.length - s) 0 (fun _ => rfl) (by simp) (by (simp only [FE,↓FP,seval]); try simp [lookedL,fleetL,overlay]) ?_
  intro s hs
  have hsu : setOf (shipB h i) (s + 1) = if shipB h i s = true then setOf (shipB h i) s ||| 2 ^ s else setOf (shipB h i) s := rfl
  have hV := setOf_lt (shipB h i) s
  have hp : 2 ^ s ≤ 2 ^ 3 := Nat.pow_le_pow_right (by decide) (by omega)
  have hat := firstK_at (h := h) (i := i) (s := s)
  have hdr := nL_drop (f := firstK h i s) (show i < 4 by omega)
  have hset := fun x q => nL_set' (f := firstK h i s) (f' := firstK h i (s + 1)) (show i < 4 by omega) (x := x) q fun g _ hg => firstK_other hg
  have hsame : shipB h i s = false → nL (firstK h i s) 4 = nL (firstK h i (s + 1)) 4 := fun q => nL_congr fun g _ => by
   by_cases qg : g = i
   ·subst qg; rw [firstK_at,firstK_at,hsu,if_neg (by rw [q]; decide)]
   ·rw [firstK_other qg]
  have hshb : shipB h i s = (takesB (h.ships[s]!) (h.letters[i]!).port (h.letters[i]!).day && (decide ((h.letters[i]!).ship = -1) || decide ((h.letters[i]!).ship = (s : Int)))) := rfl
  have hnext := firstK_next h i
  have ht' := htk i s
  simp only [lookedL,fleetL]
  generalize hT : takesB (h.ships[s]!) (h.letters[i]!).port (h.letters[i]!).day = T at *
  simp(maxSteps:=9^9)only[↓VX,VQ,seval]
  repeat'(first|intro _|apply And.intro)
  all_goals try first|omega|(simp only[LL];omega)|exact nlC (by decide) _|exact nbC rfl
  ·have hslt : s < h.ships.length := by omega
   (refine adraw (by first | exact envOk _ | exact envCOk _ _ _) mixed [⟨false,false,0⟩,⟨false,false,0⟩,⟨false,false,0⟩,⟨false,false,0⟩,⟨false,false,0⟩,⟨false,false,0⟩,⟨false,false,0⟩,⟨false,false,0⟩,⟨false,false,0⟩,⟨false,false,0⟩,⟨false,false,0⟩,⟨false,false,0⟩,⟨false,false,0⟩,⟨false,false,0⟩,⟨false,false,0⟩,⟨false,false,0⟩,⟨false,false,0⟩,⟨false,false,0⟩,⟨false,false,0⟩,⟨false,false,0⟩,⟨false,false,0⟩,⟨false,false,0⟩,⟨false,false,0⟩,⟨false,false,0⟩] (by kernel_rfl) ?_; show vcOpsD _ _ _ (_ :: _) _ _)
   simp(maxSteps:=9^9)only[↓VX,VQ,seval]
   repeat'(first|intro _|apply And.intro)
   all_goals try first|omega|(simp only[LL];omega)|exact nlC (by decide) _|exact nbC rfl
   refine VPure.of ht' ?_
   simp(maxSteps:=9^9)only[↓VX,VQ,seval]
   repeat'(first|intro _|apply And.intro)
   all_goals try first|omega|(simp only[LL];omega)|exact nlC (by decide) _|exact nbC rfl
   ·have qs : shipB h i s = true := by rw [hshb,show T = true by assumption,decide_eq_true (show (h.letters[i]!).ship = (s : Int) by assumption)]; simp
    (refine adraw (by first | exact envOk _ | exact envCOk _ _ _) mixed [⟨true,false,0⟩,⟨true,false,0⟩,⟨false,false,0⟩,⟨true,false,0⟩,⟨true,false,0⟩,⟨true,false,0⟩,⟨true,false,0⟩,⟨false,false,0⟩] (by kernel_rfl) ?_; show vcOpsD _ _ _ (_ :: _) _ _)
    simp(maxSteps:=9^9)only[↓VX,VQ,seval,hdr,hat]
    repeat'(first|intro _|apply And.intro)
    all_goals try first|omega|(simp only[LL];omega)|exact nlC (by decide) _|exact nbC rfl
    ·rw [nL_length]; omega
    ·rw [if_pos qs] at hsu
     refine ⟨s + 1,by dsimp only; omega,by dsimp only; omega,?_⟩
     (simp only [FE,↓FP,seval])
     rw [upd_upd,hset _ (by rw [firstK_at,hsu])]
     exact ⟨rfl,rfl⟩
   ·have qs : shipB h i s = false := by rw [hshb,decide_eq_false (show ¬ (h.letters[i]!).ship = (s : Int) by assumption),decide_eq_false (show ¬ (h.letters[i]!).ship = -1 by assumption)]; simp
    refine ⟨s + 1,by dsimp only; omega,by dsimp only; omega,?_⟩
    (simp only [FE,↓FP,seval])
    rw [hsame qs]
    exact ⟨rfl,rfl⟩
   ·have qs : shipB h i s = true := by rw [hshb,show T = true by assumption,decide_eq_true (show (h.letters[i]!).ship = -1 by omega)]; simp
    (refine adraw (by first | exact envOk _ | exact envCOk _ _ _) mixed [⟨true,false,0⟩,⟨true,false,0⟩,⟨false,false,0⟩,⟨true,false,0⟩,⟨true,false,0⟩,⟨true,false,0⟩,⟨true,false,0⟩,⟨false,false,0⟩] (by kernel_rfl) ?_; show vcOpsD _ _ _ (_ :: _) _ _)
    simp(maxSteps:=9^9)only[↓VX,VQ,seval,hdr,hat]
    repeat'(first|intro _|apply And.intro)
    all_goals try first|omega|(simp only[LL];omega)|exact nlC (by decide) _|exact nbC rfl
    ·rw [nL_length]; omega
    ·rw [if_pos qs] at hsu
     refine ⟨s + 1,by dsimp only; omega,by dsimp only; omega,?_⟩
     (simp only [FE,↓FP,seval])
     rw [upd_upd,hset _ (by rw [firstK_at,hsu])]
     exact ⟨rfl,rfl⟩
   ·have qs : shipB h i s = false := by rw [hshb,show T = false by (first | assumption | (rw [← Bool.not_eq_false]; assumption) | (rw [← Bool.not_eq_true]; assumption) | omega)]; simp
    refine ⟨s + 1,by dsimp only; omega,by dsimp only; omega,?_⟩
    (simp only [FE,↓FP,seval])
    rw [hsame qs]
    exact ⟨rfl,rfl⟩
  ·refine ⟨i + 1,by dsimp only; omega,by dsimp only; omega,?_⟩
   (simp only [FE,↓FP,seval])
   rw [show s = h.ships.length by omega,hnext]
   exact ⟨rfl,rfl⟩
 ·have hil : i = h.letters.length := by omega
  have hrep := hh.report
  have hk0 : nL (firstK h i 0) 4 = nL (loadK h b l 0) 4 := by rw [hil,firstK_load h b l]
  refine aloop (envCOk _ _ _) (fun n : Nat => ⟨[(0,.v (.eptr (lookedL h b bm))),(3,.v (.eptr (fleetL fun i => l[i]!))),(4,.v (.ptr b4 0)),(8,.v (.fn (.func 87) [.eptr (lookedL h b bm)] [])),(85,.v (.slice 4 (h.reports.map repA))),(86,.v (.int .i64 h.reports.length)),(87,.v (.int .i64 n))],[],[],
    upd m b4 (some (.cells (nL (loadK h b l n) 4)))⟩)
   (fun n => n ≤ h.reports.length ∧ saidN h (fun i => l[i]!) b n = true) (fun n => h.reports.length - n) 0 (fun _ => rfl) (by simp [saidN]) (by (simp only [FE,↓FP,seval]); rw [hk0]; simp [lookedL,fleetL]) ?_
  rintro n ⟨hnn,hsaid⟩
  have hlow : n < h.reports.length → saidN h (fun i => l[i]!) b (n + 1) = false → OK = false := fun q1 q2 => by rw [hload,saidN_false q1 q2]; rfl
  have hsu := saidN_succ h (fun i => l[i]!) b n
  rw [hsaid,Bool.true_and] at hsu
  have hb2 : b / 2 ^ n ≤ b := Nat.div_le_self _ _
  simp only [lookedL,fleetL]
  simp(maxSteps:=9^9)only[↓VX,VQ,seval,repA]
  repeat'(first|intro _|apply And.intro)
  all_goals try first|omega|(simp only[LL];omega)|exact nlC (by decide) _|exact nbC rfl
  ·have qb : b.testBit n = true := by assumption
   have hq : ∀ k,ofN h k b n = false := fun k => by unfold ofN; rw [qb]; simp
   have hs0 : ofSN h b n = false := by unfold ofSN; rw [qb]; simp
   refine ⟨n + 1,⟨by omega,by rw [hsu,hs0]; rfl⟩,by dsimp only; omega,?_⟩
   (simp only [FE,↓FP,seval])
   rw [loadK_skip hq]
   exact ⟨rfl,rfl⟩
  ·have hnlt : n < h.reports.length := by omega
   have qb : b.testBit n = false := by (first | assumption | (rw [← Bool.not_eq_false]; assumption) | (rw [← Bool.not_eq_true]; assumption) | omega)
   have qk : (h.reports[n]!).kind < 2 := by assumption
   obtain ⟨r1,r2,r3,r4⟩ := hrep n hnlt
   rw [if_pos qk] at r2
   obtain ⟨g,hg1,hg2⟩ := kind_fn r1
   obtain ⟨rest,hg1⟩ := hg1 (.int .i64 b) (.map bm)
   have hof : (h.reports[n]!).of_ = (((h.reports[n]!).of_.toNat : Nat) : Int) := by omega
   have hd := day_c h hh b bm (fun i => l[i]!) (h.reports[n]!).of_.toNat (h.reports[n]!).port (by omega) (hl.late _ (by rw [hl.n]; omega))
   rw [← hof] at hd
   have hs1 : ofSN h b n = true := by unfold ofSN; rw [qb,decide_eq_true qk]; rfl
   have hq : ∀ k,ofN h k b n = false := fun k => by unfold ofN; rw [decide_eq_false (by omega)]; rfl
   have hg2 := hg2 (dayN h (fun i => l[i]!) (h.reports[n]!).of_.toNat (h.reports[n]!).port)
   rw [hs1,Bool.not_true,Bool.false_or] at hsu
   generalize soN (h.reports[n]!) (dayN h (fun i => l[i]!) (h.reports[n]!).of_.toNat (h.reports[n]!).port) = so at *
   simp only [lookedL,fleetA,fleetL] at hd
   (refine adraw (by first | exact envOk _ | exact envCOk _ _ _) mixed [⟨false,false,0⟩,⟨false,false,0⟩,⟨false,false,0⟩,⟨false,false,0⟩,⟨false,false,0⟩,⟨false,false,0⟩,⟨false,false,0⟩,⟨false,false,0⟩,⟨false,false,0⟩,⟨false,false,0⟩,⟨false,false,0⟩,⟨false,false,0⟩,⟨false,false,0⟩,⟨false,false,0⟩,⟨false,false,0⟩,⟨false,false,0⟩,⟨false,false,0⟩,⟨false,false,0⟩,⟨false,false,0⟩] (by kernel_rfl) ?_; show vcOpsD _ _ _ (_ :: _) _ _)
   simp(maxSteps:=9^9)only[↓VX,VQ,seval,hg1]
   repeat'(first|intro _|apply And.intro)
   all_goals try first|omega|(simp only[LL];omega)|exact nlC (by decide) _|exact nbC rfl
   refine VPure.of hd ?_
   simp(maxSteps:=9^9)only[↓VX,VQ,seval]
   repeat'(first|intro _|apply And.intro)
   all_goals try first|omega|(simp only[LL];omega)|exact nlC (by decide) _|exact nbC rfl
   refine VPure.of hg2 ?_
   simp(maxSteps:=9^9)only[↓VX,VQ,seval]
   repeat'(first|intro _|apply And.intro)
   all_goals try first|omega|(simp only[LL];omega)|exact nlC (by decide) _|exact nbC rfl
   ·have q : so = false := by (first | assumption | (rw [← Bool.not_eq_false]; assumption) | (rw [← Bool.not_eq_true]; assumption) | omega)
    have hOK := hlow hnlt (by rw [hsu,q])
    refine ⟨m,fun k x hx => ?_,.inr ⟨hOK,rfl⟩⟩
    have hk : k ≠ b4 := by rintro rfl; rw [hx] at hb4; cases hb4
    rw [if_neg hk,if_neg hk]
    exact hx
   ·have q : so = true := by (first | assumption | (rw [← Bool.not_eq_false]; assumption) | (rw [← Bool.not_eq_true]; assumption) | omega)
    refine ⟨n + 1,⟨by omega,by rw [hsu,q]⟩,by dsimp only; omega,?_⟩
    (simp only [FE,↓FP,seval])
    rw [loadK_skip hq]
    exact ⟨rfl,rfl⟩
  ·have hnlt : n < h.reports.length := by omega
   have qb : b.testBit n = false := by (first | assumption | (rw [← Bool.not_eq_false]; assumption) | (rw [← Bool.not_eq_true]; assumption) | omega)
   have qk : ¬ (h.reports[n]!).kind < 2 := by assumption
   obtain ⟨r1,r2,r3,r4⟩ := hrep n hnlt
   rw [if_neg qk] at r2
   obtain ⟨g,hg1,hg2⟩ := kind_fn r1
   obtain ⟨rest,hg1⟩ := hg1 (.int .i64 b) (.map bm)
   have hof : (h.reports[n]!).of_ = (((h.reports[n]!).of_.toNat : Nat) : Int) := by omega
   have hs1 : ofSN h b n = false := by unfold ofSN; rw [decide_eq_false qk]; rfl
   have hofn : ∀ k,ofN h k b n = decide ((h.reports[n]!).of_ = (k : Int)) := fun k => by unfold ofN; rw [qb,decide_eq_true (by omega)]; simp
   have hend := midK_end h b l n
   generalize hK : (h.reports[n]!).of_.toNat = K at *
   have hKl : K < h.letters.length := by omega
   refine aloop (envCOk _ _ _) (fun s : Nat => ⟨[(0,.v (.eptr (lookedL h b bm))),(3,.v (.eptr (fleetL fun i => l[i]!))),(4,.v (.ptr b4 0)),(8,.v (.fn (.func 87) [.eptr (lookedL h b bm)] [])),(12,.v (.int .i64 n)),(13,.loc 13 0),(85,.v (.slice 4 (h.reports.map repA))),(86,.v (.int .i64 h.reports.length)),(87,.v (.int .i64 n)),
     (127,.v (.slice 5 (h.ships.map shipA))),(128,.v (.int .i64 h.ships.length)),(129,.v (.int .i64 s))],[],[(13,[.int .i64 (h.reports[n]!).kind,.int .i64 (h.reports[n]!).of_,.int .i64 (h.reports[n]!).port,.int .i64 (h.reports[n]!).day])],
     upd m b4 (some (.cells (nL (midK h b l n s) 4)))⟩)
    (fun s => s ≤ h.ships.length) (fun s => h.ships.length - s) 0 (fun _ => rfl) (by simp) (by (simp only [FE,↓FP,seval]); rw [midK_zero]; simp [lookedL,fleetL,overlay]) ?_
   intro s hs
   have hd := fun (q : s < h.ships.length) => day_c h hh b bm (fun i => l[i]!) s (h.letters[K]!).port q (hl.late _ (by rw [hl.n]; exact q))
   have hg2 := hg2 (dayN h (fun i => l[i]!) s (h.letters[K]!).port)
   have hdr := nL_drop (f := midK h b l n s) (show K < 4 by omega)
   have hat : midK h b l n s K = ((setOf (midB h (fun i => l[i]!) b n s K) h.ships.length : Nat) : Int) := by unfold midK; rw [if_pos hKl]
   have hoth : ∀ g,g ≠ K → midK h b l n (s + 1) g = midK h b l n s g := fun g hg => midK_other (by rw [hofn,decide_eq_false (by omega)])
   have hkeep := midK_keep (h := h) (b := b) (l := l) (n := n) (s := s) (k := K)
   have hcut := midK_cut (h := h) (b := b) (l := l) (n := n) (s := s) hKl (by rw [hofn,decide_eq_true (by omega)])
   have hset := fun x q => nL_set' (f := midK h b l n s) (f' := midK h b l n (s + 1)) (show K < 4 by omega) (x := x) q fun g _ hg => hoth g hg
   have hV := setOf_lt (midB h (fun i => l[i]!) b n s K) h.ships.length
   have hp : 2 ^ h.ships.length ≤ 2 ^ 3 := Nat.pow_le_pow_right (by decide) (by omega)
   have hps : 2 ^ s ≤ 2 ^ 3 := Nat.pow_le_pow_right (by decide) (by omega)
   generalize soN (h.reports[n]!) (dayN h (fun i => l[i]!) s (h.letters[K]!).port) = so at *
   generalize setOf (midB h (fun i => l[i]!) b n s K) h.ships.length = V at *
   simp only [lookedL,fleetA,fleetL] at hd ⊢
   simp(maxSteps:=9^9)only[↓VX,VQ,seval]
   repeat'(first|intro _|apply And.intro)
   all_goals try first|omega|(simp only[LL];omega)|exact nlC (by decide) _|exact nbC rfl
   ·have hslt : s < h.ships.length := by omega
    have hd := hd hslt
    (refine adraw (by first | exact envOk _ | exact envCOk _ _ _) mixed [⟨false,false,0⟩,⟨false,false,0⟩,⟨false,false,0⟩,⟨false,false,0⟩,⟨false,false,0⟩,⟨false,false,0⟩,⟨false,false,0⟩,⟨false,false,0⟩,⟨false,false,0⟩,⟨false,false,0⟩,⟨false,false,0⟩,⟨false,false,0⟩,⟨false,false,0⟩,⟨false,false,0⟩,⟨false,false,0⟩,⟨false,false,0⟩,⟨false,false,0⟩,⟨false,false,0⟩,⟨false,false,0⟩,⟨false,false,0⟩,⟨false,false,0⟩,⟨false,false,0⟩,⟨false,false,0⟩,⟨false,false,0⟩,⟨false,false,0⟩,⟨false,false,0⟩] (by kernel_rfl) ?_; show vcOpsD _ _ _ (_ :: _) _ _)
    simp(maxSteps:=9^9)only[↓VX,VQ,seval,hg1,hK]
    repeat'(first|intro _|apply And.intro)
    all_goals try first|omega|(simp only[LL];omega)|exact nlC (by decide) _|exact nbC rfl
    refine VPure.of hd ?_
    simp(maxSteps:=9^9)only[↓VX,VQ,seval]
    repeat'(first|intro _|apply And.intro)
    all_goals try first|omega|(simp only[LL];omega)|exact nlC (by decide) _|exact nbC rfl
    refine VPure.of hg2 ?_
    simp(maxSteps:=9^9)only[↓VX,VQ,seval]
    repeat'(first|intro _|apply And.intro)
    all_goals try first|omega|(simp only[LL];omega)|exact nlC (by decide) _|exact nbC rfl
    ·have q : so = false := by (first | assumption | (rw [← Bool.not_eq_false]; assumption) | (rw [← Bool.not_eq_true]; assumption) | omega)
     (refine adraw (by first | exact envOk _ | exact envCOk _ _ _) mixed [⟨false,false,0⟩,⟨false,false,0⟩,⟨false,false,0⟩,⟨false,false,0⟩,⟨false,false,0⟩,⟨false,false,0⟩,⟨false,false,0⟩,⟨false,false,0⟩,⟨false,false,0⟩] (by kernel_rfl) ?_; show vcOpsD _ _ _ (_ :: _) _ _)
     simp(maxSteps:=9^9)only[↓VX,VQ,seval,hK,hdr,hat]
     repeat'(first|intro _|apply And.intro)
     all_goals try first|omega|(simp only[LL];omega)|exact nlC (by decide) _|exact nbC rfl
     ·rw [nL_length]; omega
     ·refine ⟨s + 1,by dsimp only; omega,by dsimp only; omega,?_⟩
      (simp only [FE,↓FP,seval])
      rw [upd_upd,hset _ (hcut q)]
      exact ⟨rfl,rfl⟩
    ·have q : so = true := by (first | assumption | (rw [← Bool.not_eq_false]; assumption) | (rw [← Bool.not_eq_true]; assumption) | omega)
     refine ⟨s + 1,by dsimp only; omega,by dsimp only; omega,?_⟩
     (simp only [FE,↓FP,seval])
     rw [show nL (midK h b l n s) 4 = nL (midK h b l n (s + 1)) 4 from nL_congr fun g _ => by
      by_cases qg : g = K
      ·subst qg; rw [hkeep q]
      ·rw [hoth g qg]]
     exact ⟨rfl,rfl⟩
   ·refine ⟨n + 1,⟨by omega,by rw [hsu,hs1]; rfl⟩,by dsimp only; omega,?_⟩
    (simp only [FE,↓FP,seval])
    rw [show s = h.ships.length by omega,hend]
    exact ⟨rfl,rfl⟩
  ·have hne2 : n = h.reports.length := by omega
   subst hne2
   have hcon := containsM_c b4 h.letters.length 4 ((List.range 4).map (loadK h b l h.reports.length)) 0 (by simp; omega) (by simp) h4 (upd m b4 (some (.cells (nL (loadK h b l h.reports.length) 4)))) (by rw [upd_same,nL_ints])
   rw [loads_none h4] at hcon
   rw [hsaid,Bool.true_and] at hload
   rw [← hload] at hcon
   rw [Nat.sub_zero]
   refine ACall.told hcon ?_
   rintro r m' ⟨rfl,rfl⟩
   have hV : loadsV h b l = .agg (nL (loadK h b l h.reports.length) 4) := rfl
   have hlen := nL_length (loadK h b l h.reports.length) 4
   simp(maxSteps:=9^9)only[↓VX,VQ,seval]
   repeat'(first|intro _|apply And.intro)
   all_goals try first|omega|(simp only[LL];omega)|exact nlC (by decide) _|exact nbC rfl
   ·have q : OK = false := by assumption
    refine ⟨m,fun k x hx => ?_,.inr ⟨q,by first | rfl | exact ⟨rfl,rfl⟩⟩⟩
    have hk : k ≠ b4 := by rintro rfl; rw [hx] at hb4; cases hb4
    rw [if_neg hk,if_neg hk]
    exact hx
   ·have q : OK = true := by simpa using (show ¬ OK = false by assumption)
    have htk4 : (nL (loadK h b l h.reports.length) 4).take 4 = nL (loadK h b l h.reports.length) 4 := List.take_of_length_le (by rw [nL_length]; omega)
    have hfl : (nL (loadK h b l h.reports.length) 4).all flat = true := rfl
    have hdr4 : (nL (loadK h b l h.reports.length) 4).drop 4 = [] := List.drop_eq_nil_of_le (by rw [nL_length]; omega)
    (refine adraw (by first | exact envOk _ | exact envCOk _ _ _) mixed [⟨false,false,0⟩,⟨false,false,0⟩,⟨false,false,0⟩,⟨false,false,0⟩,⟨false,false,0⟩,⟨false,false,0⟩,⟨false,false,0⟩] (by kernel_rfl) ?_; show vcOpsD _ _ _ (_ :: _) _ _)
    simp(maxSteps:=9^9)only[↓VX,VQ,seval,hm,hne,hne',hlen,htk4,hfl,hdr4]
    refine ⟨hfind,?_⟩
    repeat'(first|intro _|apply And.intro)
    all_goals try first|omega|(simp only[LL];omega)|exact nlC (by decide) _|exact nbC rfl
    refine ⟨upd m bm (some (.map (knownKv h b (ls ++ [l])))),fun k x hx => ?_,.inl ⟨q,rfl,by rw [hkv]⟩⟩
    rw [hkv] at hx
    by_cases hk : k = b4
    ·subst hk; rw [upd_ne _ _ hne',hb4] at hx; cases hx
    ·rw [if_neg hk]
     by_cases hk2 : k = bm
     ·subst hk2
      rw [upd_same] at hx
      simp only [if_true]
      exact hx
     ·rw [upd_ne _ _ hk2] at hx
      simp only [if_neg hk2,if_neg hk]
      exact hx
theorem loads_c (h : RHarb) (hh : HOk h) (b : Nat) (hb : b < 2 ^ 32) (bm : Nat) (l : List Fate) (hl : FOk h l) (m : Mem) (hm : Known h b bm m) :
  ACall Try.prog 82 [.eptr (lookedL h b bm),keyA l] m fun r m' =>
   ((loadsOk h b l = true ∧ r = .tuple [loadsV h b l,.bool true]) ∨ (loadsOk h b l = false ∧ r = .tuple [.agg [.int .i64 0,.int .i64 0,.int .i64 0,.int .i64 0],.bool false])) ∧ Known h b bm m' ∧ ∀ k,k ≠ bm → m' k = m k := by
 obtain ⟨ls,hn,hm⟩ := hm
 by_cases hin : l ∈ ls
 ·refine (loads_known h hh b bm l hl ls hn hin m hm).mono ?_
  rintro r m' ⟨rfl,rfl⟩
  exact ⟨.inl ⟨(hn l hin).2,rfl⟩,⟨ls,hn,hm⟩,fun _ _ => rfl⟩
 ·refine (loads_new h hh b hb bm l hl ls hn hin m hm).mono ?_
  rintro r m' (⟨q,rfl,rfl⟩ | ⟨q,rfl,rfl⟩)
  ·refine ⟨.inl ⟨q,rfl⟩,⟨ls ++ [l],fun x hx => ?_,upd_same _ _ _⟩,fun k hk => upd_ne _ _ hk⟩
   rcases List.mem_append.1 hx with hx | hx
   ·exact hn x hx
   ·rw [List.mem_singleton.1 hx]; exact ⟨hl.n,q⟩
  ·exact ⟨.inr ⟨q,rfl⟩,⟨ls,hn,hm⟩,fun _ _ => rfl⟩
theorem buildV (place : Nat → Option (Nat × Nat)) (cells : List AV) (i : Nat) (x : AV) (r : List (Nat × SV)) : buildFrom place cells ((i,.v x) :: r) =
  match place i with
  | some (off,sz) => if known x = true ∧ x.cells.length = sz ∧ off + sz ≤ cells.length then buildFrom place (overlay cells off x.cells) r else none
  | none => none := by
 cases h : place i with
 | none => rw [buildFrom.eq_3 _ _ _ _ _ (by intro a b c e; rw [h] at e; cases e)]
 | some y => obtain ⟨off,sz⟩ := y; rw [buildFrom.eq_2 _ _ _ _ _ _ _ h]
def feq (x y : Nat → Fate) : Bool := decide ((x 0).late = (y 0).late) && (decide ((x 0).made = (y 0).made) && (decide ((x 1).late = (y 1).late) && (decide ((x 1).made = (y 1).made) && (decide ((x 2).late = (y 2).late) && (decide ((x 2).made = (y 2).made) && true)))))
theorem eqCells_fleet (x y : Nat → Fate) : eqCells (fleetL x) (fleetL y) = some (feq x y) := by
 simp [fleetL,eqCells,feq]
theorem eqFlat_fleet (x y : Nat → Fate) : EqFlat Try.prog 137 (fleetL x) (fleetL y) (feq x y) := by
 have h := eqFlat137 (x 0).late (x 0).made (x 1).late (x 1).made (x 2).late (x 2).made (y 0).late (y 0).made (y 1).late (y 1).made (y 2).late (y 2).made
 unfold feq
 simp only [Bool.and_true]
 simp only [Bool.and_assoc] at h
 exact h
theorem feq_eq {l l' : List Fate} (h3 : l.length ≤ 3) (hl : l.length = l'.length) : feq (fun i => l[i]!) (fun i => l'[i]!) = decide (l = l') := by
 rw [← key_eq h3 hl]
 unfold feq
 simp only [Bool.and_true,Bool.and_assoc]
theorem fleetL_length (x : Nat → Fate) : (fleetL x).length = 6 := rfl
theorem fleetL_flat (x : Nat → Fate) : (fleetL x).all flat = true := rfl
theorem fleetL_take (x : Nat → Fate) : (fleetL x).take 6 = fleetL x := rfl
theorem fleetL_over (x : Nat → Fate) {k : Nat} (hk : k < 3) (e : Fate) : (fleetL x).take (k * 2) ++ [.int .i64 e.late,.int .i64 e.made] ++ (fleetL x).drop (k * 2 + 2) = fleetL fun i => if i = k then e else x i := by
 have : k = 0 ∨ k = 1 ∨ k = 2 := by omega
 rcases this with rfl | rfl | rfl <;> rfl
theorem fleetL_congr {x y : Nat → Fate} (h : ∀ i,i < 3 → x i = y i) : fleetL x = fleetL y := by
 unfold fleetL
 rw [h 0 (by decide),h 1 (by decide),h 2 (by decide)]
theorem getD_app {p : List Fate} {e : Fate} (i : Nat) : (p ++ [e])[i]! = if i = p.length then e else p[i]! := by
 by_cases q : i < p.length
 ·rw [if_neg (by omega),getD_any (by simp; omega),getD_any q,List.getElem_append_left q]
 ·by_cases q2 : i = p.length
  ·subst q2; simp
  ·rw [if_neg q2]
   simp [List.getElem?_append,show ¬ i < p.length from q,show ¬ i - p.length < 1 by omega]
theorem fleetL_none (p : List Fate) : (fleetL fun i => (p ++ [Fate.mk 0 0])[i]!) = fleetL fun i => p[i]! := by
 refine fleetL_congr fun i _ => ?_
 rw [getD_app]
 split
 ·rename_i q; subst q; simp; rfl
 ·rfl
theorem fleetL_set (p : List Fate) (e e' : Fate) (hk : p.length < 3) : (fleetL fun i => (p ++ [e])[i]!).take (p.length * 2) ++ [.int .i64 e'.late,.int .i64 e'.made] ++ (fleetL fun i => (p ++ [e])[i]!).drop (p.length * 2 + 2) = fleetL fun i => (p ++ [e'])[i]! := by
 rw [fleetL_over _ hk]
 refine fleetL_congr fun i _ => ?_
 simp only [getD_app]
 split <;> rfl
structure PreOk (h : RHarb) (p : List Fate) : Prop where
 n : p.length ≤ h.ships.length
 late : ∀ s,s < p.length → 0 ≤ (p[s]!).late ∧ (p[s]!).late ≤ 3
 made : ∀ s,s < p.length → 0 ≤ (p[s]!).made ∧ (p[s]!).made ≤ ((h.ships[s]!).calls.length : Int)
theorem PreOk.full {h : RHarb} {p : List Fate} (hp : PreOk h p) (hn : p.length = h.ships.length) : FOk h p := ⟨hn,hp.late,hp.made⟩
theorem PreOk.nil (h : RHarb) : PreOk h [] := ⟨by simp,fun s hs => by simp at hs,fun s hs => by simp at hs⟩
theorem PreOk.snoc {h : RHarb} {p : List Fate} (hp : PreOk h p) {e : Fate} (hn : p.length < h.ships.length) (h1 : 0 ≤ e.late ∧ e.late ≤ 3) (h2 : 0 ≤ e.made ∧ e.made ≤ ((h.ships[p.length]!).calls.length : Int)) : PreOk h (p ++ [e]) := by
 refine ⟨by simp; omega,fun s hs => ?_,fun s hs => ?_⟩
 ·rw [getD_app]
  simp at hs
  split
  ·exact h1
  ·exact hp.late s (by omega)
 ·rw [getD_app]
  simp at hs
  split
  ·rename_i q; subst q; exact h2
  ·exact hp.made s (by omega)
structure Given (h : RHarb) (b : Nat) (pre fl L : List (List Fate)) : Prop where
 s : ∀ x ∈ L,x ∈ fl ∧ loadsOk h b x = true
 c : ∀ x ∈ fl,loadsOk h b x = true → x ∈ pre ++ L
 n : L.length ≤ fl.length
theorem Given.nil (h : RHarb) (b : Nat) (pre : List (List Fate)) : Given h b pre [] [] := ⟨by simp,by simp,by simp⟩
theorem Given.app {h : RHarb} {b : Nat} {pre fl L fl' L' : List (List Fate)} (g : Given h b pre fl L) (g' : Given h b (pre ++ L) fl' L') : Given h b pre (fl ++ fl') (L ++ L') := by
 refine ⟨fun x hx => ?_,fun x hx ho => ?_,by have := g.n; have := g'.n; simp; omega⟩
 ·rcases List.mem_append.1 hx with hx | hx
  ·exact ⟨List.mem_append_left _ (g.s x hx).1,(g.s x hx).2⟩
  ·exact ⟨List.mem_append_right _ (g'.s x hx).1,(g'.s x hx).2⟩
 ·rw [← List.append_assoc]
  rcases List.mem_append.1 hx with hx | hx
  ·exact List.mem_append_left _ (g.c x hx ho)
  ·exact g'.c x hx ho
def lateFl (p : List Fate) (r : List RShip) (left made late : Int) : List (List Fate) := (fleetsI r left).map fun g => (p ++ [Fate.mk late made]) ++ g
def madeFl (p : List Fate) (s : RShip) (r : List RShip) (left made : Int) (j : Nat) : List (List Fate) := ((List.range j).map fun (i : Nat) => s.lo + i).flatMap fun late => lateFl p r (left - sinksI s made) made late
def allFl (p : List Fate) (s : RShip) (r : List RShip) (left : Int) (q : Nat) : List (List Fate) :=
 ((List.range q).map fun (i : Nat) => (i : Int)).flatMap fun made => if sinksI s made ≤ left then madeFl p s r left made (s.hi - s.lo + 1).toNat else []
theorem madeFl_succ (p : List Fate) (s : RShip) (r : List RShip) (left made : Int) (j : Nat) : madeFl p s r left made (j + 1) = madeFl p s r left made j ++ lateFl p r (left - sinksI s made) made (s.lo + j) := by
 simp [madeFl,List.range_succ]
theorem allFl_succ (p : List Fate) (s : RShip) (r : List RShip) (left : Int) (q : Nat) : allFl p s r left (q + 1) = allFl p s r left q ++ if sinksI s q ≤ left then madeFl p s r left q (s.hi - s.lo + 1).toNat else [] := by
 simp [allFl,List.range_succ]
theorem allFl_all (p : List Fate) (s : RShip) (r : List RShip) (left : Int) : allFl p s r left (s.calls.length + 1) = (fleetsI (s :: r) left).map fun g => p ++ g := by
 unfold allFl fleetsI madeL
 rw [List.map_flatMap]
 refine congrArg (fun f => List.flatMap f _) (funext fun made => ?_)
 split
 ·unfold madeFl lateL lateFl
  rw [List.map_flatMap]
  refine congrArg (fun f => List.flatMap f _) (funext fun late => ?_)
  rw [List.map_map]
  refine List.map_congr_left fun g _ => ?_
  simp
 ·rfl
theorem flatMap_le {α β : Type} {l : List α} {f : α → List β} {n c : Nat} (hl : l.length ≤ n) (h : ∀ x ∈ l,(f x).length ≤ c) : (l.flatMap f).length ≤ n * c := by
 induction l generalizing n with
 | nil => simp
 | cons x l ih =>
  cases n with
  | zero => simp at hl
  | succ n =>
   have h1 := h x (by simp)
   have h2 := ih (n := n) (by simpa using hl) (fun y hy => h y (by simp [hy]))
   rw [List.flatMap_cons,List.length_append,Nat.succ_mul]
   omega
theorem fleetsI_le : ∀ {l : List RShip} {left : Int},(∀ s ∈ l,s.hi - s.lo ≤ 3 ∧ s.calls.length ≤ 3) → (fleetsI l left).length ≤ 16 ^ l.length
 | [],_,_ => by simp [fleetsI]
 | s :: r,left,h => by
  have hs := h s (by simp)
  have ih := fun left => fleetsI_le (l := r) (left := left) fun x hx => h x (by simp [hx])
  unfold fleetsI
  have h1 : (madeL s).length ≤ 4 := by simp [madeL]; omega
  have h2 : (lateL s).length ≤ 4 := by simp [lateL]; omega
  have := flatMap_le (n := 4) (c := 4 * 16 ^ r.length) h1 (f := fun made => if sinksI s made ≤ left then (lateL s).flatMap fun late => (fleetsI r (left - sinksI s made)).map (Fate.mk late made :: ·) else []) fun made _ => by
   split
   ·exact flatMap_le h2 fun late _ => by rw [List.length_map]; exact ih _
   ·simp
  refine Nat.le_trans this ?_
  rw [List.length_cons,Nat.pow_succ]
  omega
theorem lateFl_length (p : List Fate) (r : List RShip) (left made late : Int) : (lateFl p r left made late).length = (fleetsI r left).length := by simp [lateFl]
end Go.Proofs.Ytikodjpbknneoaa.Abs
