/- Lemmas for the statements of this seat (W32): they hold without conditions beyond those that each one states. -/
import Derived.Test.YtdmejgfcaacdoaaGreatW31
import Derived.Test.YtdmejgfcaacdoaaGreatW13
import Derived.Test.YtdmejgfcaacdoaaGreatW6
/- Contracts: Equal of marks; the words that a form gives. -/
namespace Go.Proofs.YtdmejgfcaacdoaaGreat.Abs
set_option linter.unusedSimpArgs false
set_option maxHeartbeats 4000000
set_option maxRecDepth 100000
open Go Go.RowKit Go.Proofs
theorem part9 {cs : Array Value} {off : Nat} {v : Value} (h : cs[off]? = some v) (w : World) : (part 9 cs off).run Tryz.prog w = .ok v w := by
 unfold part
 rw [Sem.run_bind,tyok_9.agg w]
 simp [TyI.agg,h]
theorem eqStr9 (d : Nat) (a b : ByteArray) (w : World) : (Op.equalIn (d + 1) 9 (.string a) (.string b)).run Tryz.prog w = .ok (decide (a = b)) w := by
 rw [run_equalIn_string w d 9 a b (by kernel_rfl)]
 congr 1
 rw [Bool.eq_iff_iff,beq_iff_eq,decide_eq_true_iff]
 exact ⟨toList_inj,fun h => by rw [h]⟩
theorem eqStepS {d : Nat} {xs ys : Array Value} {f : Field} {fs : List Field} {a b : ByteArray} {R : Bool} {w : World} (hn : f.name ≠ "_") (ht : f.type = 9) (hx : xs[f.offset]? = some (.string a)) (hy : ys[f.offset]? = some (.string b))
  (hr : (Op.eqFields (d + 1) xs ys fs).run Tryz.prog w = .ok R w) : (Op.eqFields (d + 1) xs ys (f :: fs)).run Tryz.prog w = .ok (decide (a = b) && R) w := by
 unfold Op.eqFields
 rw [if_pos hn,ht,Sem.run_bind,part9 hx,Result.andThen_ok,Sem.run_bind,part9 hy,Result.andThen_ok,Sem.run_bind,eqStr9,Result.andThen_ok]
 by_cases h : a = b
 ·simp [h,hr]
 ·simp [h]
theorem eqFlatMark (a : Int) (b : ByteArray) (a' : Int) (b' : ByteArray) : EqFlat Tryz.prog 137 [.int .i64 a,.str b] [.int .i64 a',.str b'] (decide (a = a') && (decide (b = b') && true)) := by
 intro vs vs' com w x y h h'
 obtain ⟨v1,vs,rfl,r1,h⟩ := Reps.cons_inv h
 obtain ⟨v2,vs,rfl,r2,h⟩ := Reps.cons_inv h
 obtain rfl := Reps.nil_inv h
 obtain ⟨u1,us,rfl,s1,h'⟩ := Reps.cons_inv h'
 obtain ⟨u2,us,rfl,s2,h'⟩ := Reps.cons_inv h'
 obtain rfl := Reps.nil_inv h'
 obtain rfl := rep_int r1; obtain rfl := rep_str r2
 obtain rfl := rep_int s1; obtain rfl := rep_str s2
 have hg : Tryz.prog.eqGuardType Tryz.prog.depth 137 = false := by kernel_rfl
 have hu : Tryz.prog.underlying 137 = some (.struct (Tryz.prog.fieldsOf 137)) := by kernel_rfl
 have hs : Tryz.prog.stoodInHeld 137 = false := by kernel_rfl
 have key : (Op.equalIn 10000 137 (.agg #[.int .i64 a,.string b]) (.agg #[.int .i64 a',.string b'])).run Tryz.prog w = .ok (decide (a = a') && (decide (b = b') && true)) w := by
  rw [run_equalIn_agg w 9999 137 _ _ hu hs]
  simp only [Program.fieldsOf,Tryz.underlying137]
  exact eqStep (by decide) rfl rfl rfl (eqStepS (by decide) rfl rfl rfl (by simp [Op.eqFields]))
 constructor
 ·rw [Sem.run_bind,run_eqGuard_agg w .eql 137 x y _ _ hg,Result.andThen_ok,run_eql_struct,key]; rfl
 ·rw [Sem.run_bind,run_eqGuard_agg w .neq 137 x y _ _ hg,Result.andThen_ok,run_neq_struct,key]; rfl
theorem equalM_c (a : List (Int × ByteArray)) : PCall Tryz.prog 39 [marksA a,marksA a] (.bool true) := by
 intro m
 simp only [marksA]
 (refine acall_intro (E := env fun _ => .imm) (envOk _) rfl Tryz.func39 rfl Tryz.call39 (by kernel_rfl) (by simp [Tryz.ntmps39]) ?_; simp only [Tryz.f39];  simp(maxSteps:=9^9)only[↓VX,VQ,seval])
 repeat'(first|intro _|apply And.intro)
 all_goals try first|omega|(simp only[LL];omega)|exact nlC (by decide) _|exact nbC rfl
 refine aloop (envOk _) (fun k : Nat => ⟨[(0,.v (.slice 2 (a.map markA))),(1,.v (.slice 2 (a.map markA))),(5,.v (.int .i64 k))],[],[],m⟩) (fun k => k ≤ a.length) (fun k => a.length - k) 0 (fun _ => rfl) (Nat.zero_le _) (by (simp only [FE,↓FP,seval]); try simp) ?_
 intro k hk
 by_cases hlt : k < a.length
 ·have hk' : ((k : Int) < (a.length : Int)) = True := by simp; omega
  have hef := eqFlatMark a[k]!.1 a[k]!.2 a[k]!.1 a[k]!.2
  simp only [decide_true,Bool.and_true,eq_self] at hef
  simp(maxSteps:=9^9)only[↓VX,VQ,seval,hk']
  repeat'(first|intro _|apply And.intro)
  all_goals try first|omega|(simp only[LL];omega)|exact nlC (by decide) _|exact nbC rfl
  (refine adraw (by first | exact envOk _ | exact envCOk _ _ _) mixed [⟨false,false,0⟩,⟨false,false,0⟩,⟨false,false,0⟩,⟨false,false,0⟩,⟨false,false,0⟩,⟨false,false,0⟩,⟨false,false,0⟩,⟨false,false,0⟩,⟨false,false,0⟩] (by kernel_rfl) ?_; show vcOpsD _ _ _ (_ :: _) _ _)
  simp(maxSteps:=9^9)only[↓VX,VQ,seval,markA,AV.cells]
  refine ⟨by omega,by omega,hef,fun h => absurd h (by decide),fun _ => ⟨by omega,?_⟩⟩
  refine ⟨k + 1,by omega,by dsimp only; omega,?_⟩
  (simp only [FE,↓FP,seval])
  simp
 ·simp(maxSteps:=9^9)only[↓VX,VQ,seval]
  repeat'(first|intro _|apply And.intro)
  all_goals try first|omega|(simp only[LL];omega)|exact nlC (by decide) _|exact nbC rfl
  trivial
theorem givenOf_cons (out : List ByteArray) (ws : List ByteArray) (k : Nat) (hk : k < ws.length) : (ws.take (k + 1)).foldl givenAdd out = givenAdd ((ws.take k).foldl givenAdd out) ws[k]! := by
 rw [take_snoc hk,List.foldl_append]; rfl
theorem idxL_lt {α : Type} (p : α → Bool) (l : List α) : (idxL p l < 0) = (l.any p = false) := by
 have h := idxL_any p l
 cases q : l.any p
 ·rw [q,decide_eq_false_iff_not] at h; simp; omega
 ·rw [q,decide_eq_true_iff] at h; simp; omega
theorem topgiven_c (f : RForm) : PCall Tryz.prog 8 [formA f] (strs (givenOf f.parts)) := by
 intro m
 have hw := where_c
 simp only [formA,formL,strs] at hw ⊢
 (refine acall_intro (E := env fun _ => .imm) (envOk _) rfl Tryz.func8 rfl Tryz.call8 (by kernel_rfl) (by simp [Tryz.ntmps8]) ?_; simp only [Tryz.f8];  simp(maxSteps:=9^9)only[↓VX,VQ,seval])
 refine aloop (envOk _) (fun i : Nat => ⟨[(1,.v (.eptr [.str f.name,.slice 3 (f.parts.map partA)])),(3,.v (.slice 1 ((givenOf (f.parts.take i)).map AV.str))),(4,.v (.int .i64 i))],[],[],m⟩)
  (fun i => i ≤ f.parts.length) (fun i => f.parts.length - i) 0 (fun _ => rfl) (Nat.zero_le _) (by (simp only [FE,↓FP,seval]); try simp [givenOf]) ?_
 intro i hi
 by_cases hlt : i < f.parts.length
 ·have hi' : ((i : Int) < (f.parts.length : Int)) = True := by simp; omega
  have hg : givenOf (f.parts.take (i + 1)) = (f.parts[i]!.words).foldl givenAdd (givenOf (f.parts.take i)) := by
   unfold givenOf
   rw [take_snoc hlt,List.flatMap_append,List.foldl_append]; simp
  have hl0 := givenOf_len (f.parts.take i)
  generalize givenOf (f.parts.take i) = G0 at *
  simp(maxSteps:=9^9)only[↓VX,VQ,seval,hi']
  repeat'(first|intro _|apply And.intro)
  all_goals try first|omega|(simp only[LL];omega)|exact nlC (by decide) _|exact nbC rfl
  refine aloop (envOk _) (fun k : Nat => ⟨[(1,.v (.eptr [.str f.name,.slice 3 (f.parts.map partA)])),(3,.v (.slice 1 ((((f.parts[i]!.words).take k).foldl givenAdd G0).map AV.str))),(4,.v (.int .i64 i)),(5,.v (.slice 1 ((f.parts[i]!.words).map AV.str))),(6,.v (.int .i64 k))],[],[],m⟩)
   (fun k => k ≤ (f.parts[i]!.words).length) (fun k => (f.parts[i]!.words).length - k) 0 (fun _ => rfl) (Nat.zero_le _) (by (simp only [FE,↓FP,seval]); try simp) ?_
  intro k hk
  by_cases hlk : k < (f.parts[i]!.words).length
  ·have hk' : ((k : Int) < ((f.parts[i]!.words).length : Int)) = True := eq_true (by omega)
   have hsn := givenOf_cons G0 f.parts[i]!.words k hlk
   have hll : (((f.parts[i]!.words).take k).foldl givenAdd G0).length ≤ 5 := givenAdd_len hl0
   have hww := hw (((f.parts[i]!.words).take k).foldl givenAdd G0) f.parts[i]!.words[k]!
   generalize ((f.parts[i]!.words).take k).foldl givenAdd G0 = G at *
   have hga : givenAdd G f.parts[i]!.words[k]! = if (G.any (fun x => decide (x = f.parts[i]!.words[k]!))) = false ∧ G.length < 5 then G ++ [f.parts[i]!.words[k]!] else G := rfl
   rw [hga] at hsn
   have hix := idxL_lt (fun x => decide (x = f.parts[i]!.words[k]!)) G
   obtain ⟨B,hB⟩ : ∃ B,G.any (fun x => decide (x = f.parts[i]!.words[k]!)) = B := ⟨_,rfl⟩
   rw [hB] at hix
   rw [hB] at hsn
   cases B
   ·have hix' := hix.trans (eq_true rfl)
    by_cases h5 : G.length < 5
    ·rw [if_pos ⟨rfl,h5⟩] at hsn
     have h5' : ((G.length : Int) < 5) = True := eq_true (by omega)
     simp(maxSteps:=9^9)only[↓VX,VQ,seval,hk']
     repeat'(first|intro _|apply And.intro)
     all_goals try first|omega|(simp only[LL];omega)|exact nlC (by decide) _|exact nbC rfl
     refine ACall.pure hww ?_
     simp(maxSteps:=9^9)only[↓VX,VQ,seval,h5',hix']
     repeat'(first|intro _|apply And.intro)
     all_goals try first|omega|(simp only[LL];omega)|exact nlC (by decide) _|exact nbC rfl
     (refine adraw (by first | exact envOk _ | exact envCOk _ _ _) mixed [⟨false,false,0⟩,⟨false,false,0⟩,⟨false,true,0⟩,⟨false,false,0⟩,⟨false,false,0⟩,⟨false,false,0⟩,⟨false,false,0⟩,⟨false,false,0⟩,⟨false,true,0⟩,⟨false,true,0⟩] (by kernel_rfl) ?_; show vcOpsD _ _ _ (_ :: _) _ _)
     simp(maxSteps:=9^9)only[↓VX,VQ,seval]
     repeat'(first|intro _|apply And.intro)
     all_goals try first|omega|(simp only[LL];omega)|exact nlC (by decide) _|exact nbC rfl
     refine ⟨k + 1,by omega,by dsimp only; omega,?_⟩
     (simp only [FE,↓FP,seval])
     rw [hsn]
     simp
    ·rw [if_neg (fun e => h5 e.2)] at hsn
     have h5' : ((G.length : Int) < 5) = False := eq_false (by omega)
     simp(maxSteps:=9^9)only[↓VX,VQ,seval,hk']
     repeat'(first|intro _|apply And.intro)
     all_goals try first|omega|(simp only[LL];omega)|exact nlC (by decide) _|exact nbC rfl
     refine ACall.pure hww ?_
     simp(maxSteps:=9^9)only[↓VX,VQ,seval,h5',hix']
     repeat'(first|intro _|apply And.intro)
     all_goals try first|omega|(simp only[LL];omega)|exact nlC (by decide) _|exact nbC rfl
     refine ⟨k + 1,by omega,by dsimp only; omega,?_⟩
     (simp only [FE,↓FP,seval])
     rw [hsn]
     simp
   ·have hix' := hix.trans (eq_false (by decide))
    rw [if_neg (fun e => by simp at e)] at hsn
    simp(maxSteps:=9^9)only[↓VX,VQ,seval,hk']
    repeat'(first|intro _|apply And.intro)
    all_goals try first|omega|(simp only[LL];omega)|exact nlC (by decide) _|exact nbC rfl
    refine ACall.pure hww ?_
    simp(maxSteps:=9^9)only[↓VX,VQ,seval,hix']
    repeat'(first|intro _|apply And.intro)
    all_goals try first|omega|(simp only[LL];omega)|exact nlC (by decide) _|exact nbC rfl
    refine ⟨k + 1,by omega,by dsimp only; omega,?_⟩
    (simp only [FE,↓FP,seval])
    rw [hsn]
    simp
  ·have hke : k = (f.parts[i]!.words).length := by omega
   rw [hke,List.take_length,← hg]
   simp(maxSteps:=9^9)only[↓VX,VQ,seval]
   repeat'(first|intro _|apply And.intro)
   all_goals try first|omega|(simp only[LL];omega)|exact nlC (by decide) _|exact nbC rfl
   refine ⟨i + 1,by omega,by dsimp only; omega,?_⟩
   (simp only [FE,↓FP,seval])
   simp
 ·have hke : i = f.parts.length := by omega
  subst hke
  rw [List.take_length]
  simp(maxSteps:=9^9)only[↓VX,VQ,seval]
  repeat'(first|intro _|apply And.intro)
  all_goals try first|omega|(simp only[LL];omega)|exact nlC (by decide) _|exact nbC rfl
  all_goals first | trivial | skip
theorem names_any (l : List RForm) (k : Nat) (nm : ByteArray) : ((l.take k).map RForm.name).any (fun x => decide (x = nm)) = (l.take k).any (fun y => decide (y.name = nm)) := by
 rw [List.any_map]; rfl
theorem refcheck2_c (s : RShelf) (hs : shelfFit s) : PCall Tryz.prog 5 [shelfA s] (.tuple [.int .i64 (checkS s).1,.int .i64 (checkS s).2.1,.int .i64 (checkS s).2.2]) := by
 intro m
 obtain ⟨E,hE⟩ : ∃ E,E = checkS s := ⟨_,rfl⟩
 rw [← hE]
 unfold checkS at hE
 have hin := in_c s.width 8 30
 have hoe : decide (8 ≤ s.width ∧ s.width ≤ 30) = !offP 8 30 s.width := by
  unfold offP
  rw [Bool.eq_iff_iff]; simp
 rw [hoe] at hin
 obtain ⟨o,ho⟩ : ∃ o,o = offP 8 30 s.width := ⟨_,rfl⟩
 rw [← ho] at hin hE
 simp only [shelfA,shelfL]
 (refine acall_intro (E := envC (modeAt [7] []) false [10]) (envCOk _ _ _) rfl Tryz.func5 rfl Tryz.call5 (by kernel_rfl) (by simp [Tryz.ntmps5]) ?_; simp only [Tryz.f5];  simp(maxSteps:=9^9)only[↓VX,VQ,seval])
 (refine ACall.pure (hin) ?_; try simp(maxSteps:=9^9)only[↓VX,VQ,seval])
 cases o
 ·rw [if_neg (by decide)] at hE
  simp(maxSteps:=9^9)only[↓VX,VQ,seval]
  repeat'(first|intro _|apply And.intro)
  all_goals try first|omega|(simp only[LL];omega)|exact nlC (by decide) _|exact nbC rfl
  ·rw [hE,if_pos (by omega)]
  ·have h4 : s.forms.length ≤ 4 := by omega
   rw [if_neg (by omega)] at hE
   refine aloop (envCOk _ _ _) (fun k : Nat => ⟨[(1,.v (.eptr [.int .i64 s.width,.slice 2 (s.forms.map formA)])),(5,.v (.slice 1 (((s.forms.take k).map RForm.name).map AV.str))),(6,.v (.int .i64 k))],[5],[],m⟩)
    (fun k => k ≤ s.forms.length ∧ ∀ i < k,formE s.forms i s.forms[i]! = 0) (fun k => s.forms.length - k) 0 (fun _ => rfl) (by simp) (by (simp only [FE,↓FP,seval]); try simp) ?_
   rintro k ⟨hk,hp⟩
   by_cases hlt : k < s.forms.length
   ·have hk' : ((k : Int) < (s.forms.length : Int)) = True := eq_true (by omega)
    have hfm : formFit s.forms[k]! := by rw [getD_any hlt]; exact hs _ (List.getElem_mem hlt)
    have hfr := fresh_c s.forms[k]!.name ((s.forms.take k).map RForm.name) hfm.1
    rw [names_any] at hfr
    have hat : ∀ e,formE s.forms k s.forms[k]! = e → e ≠ 0 → E = (2,(k : Int),e) := by
     intro e he hne
     have := failFrom_at (f := formE s.forms) (n := 0) hlt (by simpa only [Nat.zero_add] using hp) (by rw [Nat.zero_add,he]; exact hne)
     rw [Nat.zero_add,he] at this
     rw [hE]; unfold formsE; rw [this]; dsimp only; rw [if_pos hne]
    obtain ⟨z,hz⟩ : ∃ z,z = (if nameB s.forms[k]!.name = true then (if (s.forms.take k).any (fun y => decide (y.name = s.forms[k]!.name)) = true then (5 : Int) else 0) else 6) := ⟨_,rfl⟩
    rw [← hz] at hfr
    have hfe : formE s.forms k s.forms[k]! = if z ≠ 0 then z else if 5 < s.forms[k]!.parts.length then 3 else partsE s.forms[k]!.parts := by
     rw [hz]
     unfold formE
     by_cases q1 : nameB s.forms[k]!.name = true
     ·rw [if_pos q1,if_pos q1]
      by_cases q2 : (s.forms.take k).any (fun y => decide (y.name = s.forms[k]!.name)) = true
      ·rw [if_pos q2,if_pos q2,if_pos (by decide)]
      ·rw [if_neg q2,if_neg q2]; rfl
     ·rw [if_neg q1,if_neg q1,if_pos (by decide)]
    simp only [strs] at hfr
    simp(maxSteps:=9^9)only[↓VX,VQ,seval,hk']
    repeat'(first|intro _|apply And.intro)
    all_goals try first|omega|(simp only[LL];omega)|exact nlC (by decide) _|exact nbC rfl
    refine acut_keep_at 2 (envCOk _ _ _) rfl rfl rfl (fun (_ : Unit) => ⟨[(1,.v (.eptr [.int .i64 s.width,.slice 2 (s.forms.map formA)])),(5,.v (.slice 1 (((s.forms.take k).map RForm.name).map AV.str))),(6,.v (.int .i64 k)),(7,.loc 7 0),(8,.v (.int .i64 z))],[5],[(7,[.str s.forms[k]!.name,.slice 3 (s.forms[k]!.parts.map partA)])],m⟩) (fun _ => True) (fun _ => rfl) ?_ ?_
    ·show vcOps _ _ (_ :: _) _ _
     simp(maxSteps:=9^9)only[↓VX,VQ,seval,List.take_succ_cons,List.take_zero]
     refine ⟨fun _ h => h.elim,?_⟩
     refine ACall.pure hfr ?_
     simp(maxSteps:=9^9)only[↓VX,VQ,seval]
     exact ⟨(),by (simp only [FE,↓FP,seval])⟩
    rintro _ _
    have hTz : ∀ e2,e2 = (if z = 0 ∧ 5 < s.forms[k]!.parts.length then 3 else z) → (e2 ≠ 0 ∧ formE s.forms k s.forms[k]! = e2) ∨ (e2 = 0 ∧ formE s.forms k s.forms[k]! = partsE s.forms[k]!.parts) := fun e2 he => by
     rw [hfe]
     by_cases q1 : z = 0
     ·rw [if_neg (fun e => e q1)]
      by_cases q2 : 5 < s.forms[k]!.parts.length
      ·rw [if_pos q2]; rw [if_pos ⟨q1,q2⟩] at he; left; exact ⟨by rw [he]; decide,he.symm⟩
      ·rw [if_neg q2]; rw [if_neg (fun e => q2 e.2)] at he; right; exact ⟨by rw [he]; exact q1,rfl⟩
     ·rw [if_pos q1]; rw [if_neg (fun e => q1 e.1)] at he; left; exact ⟨by rw [he]; exact q1,he.symm⟩
    have htk : ((s.forms.take k).map RForm.name).length ≤ 4 := by rw [List.length_map,List.length_take]; omega
    have htk2 : (s.forms.take (k + 1)).map RForm.name = (s.forms.take k).map RForm.name ++ [s.forms[k]!.name] := by rw [take_snoc hlt,List.map_append]; rfl
    simp(maxSteps:=9^9)only[↓VX,VQ,seval]
    repeat'(first|intro _|apply And.intro)
    all_goals try first|omega|(simp only[LL];omega)|exact nlC (by decide) _|exact nbC rfl
    ·rw [List.length_take]; omega
    all_goals
     refine aloop (envCOk _ _ _) (fun q : Nat × Int => ⟨[(1,.v (.eptr [.int .i64 s.width,.slice 2 (s.forms.map formA)])),(5,.v (.slice 1 (((s.forms.take (k + 1)).map RForm.name).map AV.str))),(6,.v (.int .i64 k)),(7,.loc 7 0),(8,.v (.int .i64 q.2)),(9,.v (.int .i64 q.1))],[5],[(7,[.str s.forms[k]!.name,.slice 3 (s.forms[k]!.parts.map partA)])],m⟩)
      (fun q => q.1 ≤ s.forms[k]!.parts.length ∧ ((q.2 ≠ 0 ∧ formE s.forms k s.forms[k]! = q.2) ∨ (q.2 = 0 ∧ formE s.forms k s.forms[k]! = partsE s.forms[k]!.parts ∧ ∀ j,j < q.1 → partE s.forms[k]!.parts[j]! = 0))) (fun q => s.forms[k]!.parts.length - q.1) (0,if z = 0 ∧ 5 < s.forms[k]!.parts.length then 3 else z) (fun _ => rfl)
      ⟨Nat.zero_le _,(hTz _ rfl).imp id fun h => ⟨h.1,h.2,fun j hj => absurd hj (Nat.not_lt_zero _)⟩⟩ ?_ ?_
    all_goals try (((simp only [FE,↓FP,seval])); rw [htk2]; (first | rw [if_pos ⟨by omega,by omega⟩] | rw [if_neg (by omega)]); simp; done)
    all_goals
     rintro ⟨j,e⟩ ⟨hj,hJ⟩
     dsimp only at hj hJ
     rcases hJ with ⟨he,hT⟩ | ⟨rfl,hT,hq⟩
     ·have e0 : (e = 0) = False := eq_false he
      rw [hat e hT he]
      simp(maxSteps:=9^9)only[↓VX,VQ,seval,e0]
      repeat'(first|intro _|apply And.intro)
      all_goals try first|omega|(simp only[LL];omega)|exact nlC (by decide) _|exact nbC rfl
     ·by_cases hjl : j < s.forms[k]!.parts.length
      ·have hj' : ((j : Int) < (s.forms[k]!.parts.length : Int)) = True := eq_true (by omega)
       have hpf : sizesFit s.forms[k]!.parts[j]!.words := hfm.2 _ (by rw [getD_any hjl]; exact List.getElem_mem hjl)
       have hpc := refpart_c s.forms[k]!.parts[j]! hpf
       simp only [partA,strs] at hpc
       obtain ⟨e,he⟩ : ∃ e,e = partE s.forms[k]!.parts[j]! := ⟨_,rfl⟩
       rw [← he] at hpc
       simp(maxSteps:=9^9)only[↓VX,VQ,seval,hj']
       repeat'(first|intro _|apply And.intro)
       all_goals try first|omega|(simp only[LL];omega)|exact nlC (by decide) _|exact nbC rfl
       (refine ACall.pure (hpc) ?_; try simp(maxSteps:=9^9)only[↓VX,VQ,seval])
       repeat'(first|intro _|apply And.intro)
       all_goals try first|omega|(simp only[LL];omega)|exact nlC (by decide) _|exact nbC rfl
       refine ⟨(j + 1,e),⟨by dsimp only; omega,?_⟩,by dsimp only; omega,?_⟩
       ·dsimp only
        by_cases e0 : e = 0
        ·refine .inr ⟨e0,hT,fun i hi => ?_⟩
         by_cases q : i = j
         ·rw [q,← he]; exact e0
         ·exact hq i (by omega)
        ·refine .inl ⟨e0,?_⟩
         rw [hT,partsE_at hjl hq (by rw [← he]; exact e0),he]
       ·(simp only [FE,↓FP,seval])
        simp
      ·have hj' : ((j : Int) < (s.forms[k]!.parts.length : Int)) = False := eq_false (by omega)
       simp(maxSteps:=9^9)only[↓VX,VQ,seval,hj']
       repeat'(first|intro _|apply And.intro)
       all_goals try first|omega|(simp only[LL];omega)|exact nlC (by decide) _|exact nbC rfl
       refine ⟨k + 1,⟨by omega,fun i hi => ?_⟩,by dsimp only; omega,?_⟩
       ·by_cases q : i = k
        ·rw [q,hT]
         refine partsE_zero.2 fun p hp' => ?_
         obtain ⟨n,hn,rfl⟩ := List.getElem_of_mem hp'
         have := hq n (by omega)
         rwa [getElem!_pos _ n hn] at this
        ·exact hp i (by omega)
       ·(simp only [FE,↓FP,seval])
        simp
   ·have h0 : (formsE s).2 = 0 := failFrom_zero.2 fun i hi => by
     have := hp i (by omega)
     rw [Nat.zero_add]
     rwa [getElem!_pos s.forms i hi] at this
    simp(maxSteps:=9^9)only[↓VX,VQ,seval]
    repeat'(first|intro _|apply And.intro)
    all_goals try first|omega|(simp only[LL];omega)|exact nlC (by decide) _|exact nbC rfl
    rw [hE,if_neg (by simp [h0])]
 ·rw [if_pos rfl] at hE
  simp(maxSteps:=9^9)only[↓VX,VQ,seval]
  rw [hE]
end Go.Proofs.YtdmejgfcaacdoaaGreat.Abs
