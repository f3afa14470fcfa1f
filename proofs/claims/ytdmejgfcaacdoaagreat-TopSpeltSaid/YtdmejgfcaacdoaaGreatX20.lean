/- Lemmas for the statements of this seat (X20): they hold without conditions beyond those that each one states. -/
import Derived.Test.YtdmejgfcaacdoaaGreatX19
import Derived.Test.YtdmejgfcaacdoaaGreatX18
import Derived.Test.YtdmejgfcaacdoaaGreatX13
import Derived.WideKeyRuns
/- Laws: '==' of places and of numbers in rooms; maps keyed by places. -/
namespace Go.Proofs.YtdmejgfcaacdoaaGreat.Abs
set_option linter.unusedSimpArgs false
open Go Go.RowKit Go.Proofs
theorem eqPlace (a b a' b' : Int) (w : World) : (Op.equalIn 10000 132 (.agg #[.int .i64 a,.int .i64 b]) (.agg #[.int .i64 a',.int .i64 b'])).run Tryz.prog w = .ok (decide (a = a') && (decide (b = b') && true)) w := by
 have hu : Tryz.prog.underlying 132 = some (.struct (Tryz.prog.fieldsOf 132)) := by kernel_rfl
 have hs : Tryz.prog.stoodInHeld 132 = false := by kernel_rfl
 rw [run_equalIn_agg w 9999 132 _ _ hu hs]
 simp only [Program.fieldsOf,Tryz.underlying132]
 exact eqStep (by decide) rfl rfl rfl (eqStep (by decide) rfl rfl rfl (by simp [Op.eqFields]))
theorem eqFlatPlace (a b a' b' : Int) : EqFlat Tryz.prog 132 [.int .i64 a,.int .i64 b] [.int .i64 a',.int .i64 b'] (decide (a = a') && (decide (b = b') && true)) := by
 intro vs vs' com w x y h h'
 obtain ⟨v1,vs,rfl,r1,h⟩ := Reps.cons_inv h
 obtain ⟨v2,vs,rfl,r2,h⟩ := Reps.cons_inv h
 obtain rfl := Reps.nil_inv h
 obtain ⟨u1,us,rfl,s1,h'⟩ := Reps.cons_inv h'
 obtain ⟨u2,us,rfl,s2,h'⟩ := Reps.cons_inv h'
 obtain rfl := Reps.nil_inv h'
 obtain rfl := rep_int r1; obtain rfl := rep_int r2
 obtain rfl := rep_int s1; obtain rfl := rep_int s2
 have hg : Tryz.prog.eqGuardType Tryz.prog.depth 132 = false := by kernel_rfl
 have key := eqPlace a b a' b' w
 constructor
 ·rw [Sem.run_bind,run_eqGuard_agg w .eql 132 x y _ _ hg,Result.andThen_ok,run_eql_struct,key]; rfl
 ·rw [Sem.run_bind,run_eqGuard_agg w .neq 132 x y _ _ hg,Result.andThen_ok,run_neq_struct,key]; rfl
theorem eqFlatMany (a b c d e a' b' c' d' e' : Int) : EqFlat Tryz.prog 109 [.int .i64 a,.int .i64 b,.int .i64 c,.int .i64 d,.int .i64 e] [.int .i64 a',.int .i64 b',.int .i64 c',.int .i64 d',.int .i64 e']
  (decide (a = a') && (decide (b = b') && (decide (c = c') && (decide (d = d') && (decide (e = e') && true))))) := by
 intro vs vs' com w x y h h'
 obtain ⟨v1,vs,rfl,r1,h⟩ := Reps.cons_inv h
 obtain ⟨v2,vs,rfl,r2,h⟩ := Reps.cons_inv h
 obtain ⟨v3,vs,rfl,r3,h⟩ := Reps.cons_inv h
 obtain ⟨v4,vs,rfl,r4,h⟩ := Reps.cons_inv h
 obtain ⟨v5,vs,rfl,r5,h⟩ := Reps.cons_inv h
 obtain rfl := Reps.nil_inv h
 obtain ⟨u1,us,rfl,s1,h'⟩ := Reps.cons_inv h'
 obtain ⟨u2,us,rfl,s2,h'⟩ := Reps.cons_inv h'
 obtain ⟨u3,us,rfl,s3,h'⟩ := Reps.cons_inv h'
 obtain ⟨u4,us,rfl,s4,h'⟩ := Reps.cons_inv h'
 obtain ⟨u5,us,rfl,s5,h'⟩ := Reps.cons_inv h'
 obtain rfl := Reps.nil_inv h'
 obtain rfl := rep_int r1; obtain rfl := rep_int r2; obtain rfl := rep_int r3; obtain rfl := rep_int r4; obtain rfl := rep_int r5
 obtain rfl := rep_int s1; obtain rfl := rep_int s2; obtain rfl := rep_int s3; obtain rfl := rep_int s4; obtain rfl := rep_int s5
 have hg : Tryz.prog.eqGuardType Tryz.prog.depth 109 = false := by kernel_rfl
 have hsz : (sizeOf 3).run Tryz.prog w = .ok 1 w := tyok_3.size w
 have key : (Op.equalIn 10000 109 (.agg #[.int .i64 a,.int .i64 b,.int .i64 c,.int .i64 d,.int .i64 e]) (.agg #[.int .i64 a',.int .i64 b',.int .i64 c',.int .i64 d',.int .i64 e'])).run Tryz.prog w =
   .ok (decide (a = a') && (decide (b = b') && (decide (c = c') && (decide (d = d') && (decide (e = e') && true))))) w := by
  have p0 := part3 (cs := #[Value.int .i64 a,.int .i64 b,.int .i64 c,.int .i64 d,.int .i64 e]) (off := 0) rfl w
  have p1 := part3 (cs := #[Value.int .i64 a,.int .i64 b,.int .i64 c,.int .i64 d,.int .i64 e]) (off := 1) rfl w
  have p2 := part3 (cs := #[Value.int .i64 a,.int .i64 b,.int .i64 c,.int .i64 d,.int .i64 e]) (off := 2) rfl w
  have p3 := part3 (cs := #[Value.int .i64 a,.int .i64 b,.int .i64 c,.int .i64 d,.int .i64 e]) (off := 3) rfl w
  have p4 := part3 (cs := #[Value.int .i64 a,.int .i64 b,.int .i64 c,.int .i64 d,.int .i64 e]) (off := 4) rfl w
  have t0 := part3 (cs := #[Value.int .i64 a',.int .i64 b',.int .i64 c',.int .i64 d',.int .i64 e']) (off := 0) rfl w
  have t1 := part3 (cs := #[Value.int .i64 a',.int .i64 b',.int .i64 c',.int .i64 d',.int .i64 e']) (off := 1) rfl w
  have t2 := part3 (cs := #[Value.int .i64 a',.int .i64 b',.int .i64 c',.int .i64 d',.int .i64 e']) (off := 2) rfl w
  have t3 := part3 (cs := #[Value.int .i64 a',.int .i64 b',.int .i64 c',.int .i64 d',.int .i64 e']) (off := 3) rfl w
  have t4 := part3 (cs := #[Value.int .i64 a',.int .i64 b',.int .i64 c',.int .i64 d',.int .i64 e']) (off := 4) rfl w
  have q0 := eqInt3 9998 a a' w
  have q1 := eqInt3 9998 b b' w
  have q2 := eqInt3 9998 c c' w
  have q3 := eqInt3 9998 d d' w
  have q4 := eqInt3 9998 e e' w
  rw [show (10000 : Nat) = 9999 + 1 from rfl,Op.equalIn]
  generalize hE : Op.equalIn 9999 = E
  rw [show (9998 : Nat) + 1 = 9999 from rfl,hE] at q0 q1 q2 q3 q4
  simp only [Sem.run_bind,run_underlying Tryz.underlying109,Result.andThen_ok,hsz]
  simp only [Std.Legacy.Range.forIn_eq_forIn_range',Std.Legacy.Range.size,Nat.sub_zero,Nat.add_sub_cancel,Nat.div_one,List.range'_succ,List.range'_zero,List.forIn_cons,List.forIn_nil,Nat.zero_add,Nat.reduceAdd,Nat.zero_mul,Nat.one_mul,Nat.reduceMul,Sem.run_bind,p0,p1,p2,p3,p4,t0,t1,t2,t3,t4,q0,q1,q2,q3,q4,Result.andThen_ok,Sem.run_ite,Sem.run_pure]
  clear hE
  rcases Decidable.em (a = a') with rfl | h1
  ·rcases Decidable.em (b = b') with rfl | h2
   ·rcases Decidable.em (c = c') with rfl | h3
    ·rcases Decidable.em (d = d') with rfl | h4
     ·rcases Decidable.em (e = e') with rfl | h5 <;> simp_all
     ·simp_all
    ·simp_all
   ·simp_all
  ·simp_all
 constructor
 ·rw [Sem.run_bind,run_eqGuard_agg w .eql 109 x y _ _ hg,Result.andThen_ok,run_eql_struct,key]; rfl
 ·rw [Sem.run_bind,run_eqGuard_agg w .neq 109 x y _ _ hg,Result.andThen_ok,run_neq_struct,key]; rfl
def placeV (x : Nat × Nat) : Value := .agg #[.int .i64 x.1,.int .i64 x.2]
theorem rep_place {com : Nat → Nat} {w : World} {x : Nat × Nat} {v : Value} (h : Rep com w (placeA x.1 x.2) v) : v = placeV x := by
 cases h with
 | agg _ vs hl h =>
  have hr : Reps com w [.int .i64 x.1,.int .i64 x.2] vs := ⟨hl,h⟩
  obtain ⟨v1,vs,rfl,r1,hr⟩ := Reps.cons_inv hr
  obtain ⟨v2,vs,rfl,r2,hr⟩ := Reps.cons_inv hr
  obtain rfl := Reps.nil_inv hr
  obtain rfl := rep_int r1; obtain rfl := rep_int r2
  rfl
theorem equal_place (x y : Nat × Nat) (w : World) : (Op.equal 132 (placeV x) (placeV y)).run Tryz.prog w = .ok (decide (x = y)) w := by
 have h : (decide ((x.1 : Int) = y.1) && (decide ((x.2 : Int) = y.2) && true)) = decide (x = y) := by
  rw [Bool.eq_iff_iff]
  simp only [Bool.and_eq_true,decide_eq_true_eq,and_true]
  constructor
  ·rintro ⟨h1,h2⟩; exact Prod.ext (by omega) (by omega)
  ·rintro rfl; simp
 rw [← h]
 exact eqPlace _ _ _ _ w
theorem findP_asking (V : Nat × Nat → AV) {x : Nat × Nat} {com : Nat → Nat} {w : World} : ∀ (ls : List (Nat × Nat)) (es : List MapEntry) (i : Nat),ls.length = es.length →
  (∀ (i : Nat) (l : Nat × Nat) (m : MapEntry),ls[i]? = some l → es[i]? = some m → Rep com w (placeA l.1 l.2) m.key ∧ Rep com w (V l) m.val) →
  if x ∈ ls then ∃ j v,(Instr.findAsking 132 (placeV x) es i).run Tryz.prog w = .ok (some (j,v)) w ∧ Rep com w (V x) v else (Instr.findAsking 132 (placeV x) es i).run Tryz.prog w = .ok none w
 | [],[],i,_,_ => by simp [Instr.findAsking]
 | [],_ :: _,_,hl,_ => by simp at hl
 | _ :: _,[],_,hl,_ => by simp at hl
 | l :: ls,e :: es,i,hl,hr => by
  have ih := findP_asking V (x := x) ls es (i + 1) (by simpa using hl) (fun j y m h1 h2 => hr (j + 1) y m (by simpa using h1) (by simpa using h2))
  have h0 := hr 0 l e rfl rfl
  have hk := rep_place h0.1
  have he := equal_place x l w
  have key : (Instr.findAsking 132 (placeV x) (e :: es) i).run Tryz.prog w = if x = l then .ok (some (i,e.val)) w else (Instr.findAsking 132 (placeV x) es (i + 1)).run Tryz.prog w := by
   rw [Instr.findAsking,hk,Sem.run_bind,he,Result.andThen_ok]
   by_cases q : x = l
   ·simp [q]
   ·simp [q]
  by_cases q : x = l
  ·subst q
   rw [if_pos (by simp)]
   exact ⟨i,e.val,by rw [key,if_pos rfl],h0.2⟩
  ·rw [key,if_neg q]
   have : (x ∈ l :: ls) ↔ x ∈ ls := by simp [q]
   simp only [this]
   exact ih
theorem chk3 (e : Bool) (n : Nat) (a : Int) (w : World) : (Instr.checkKey e (n + 1) 3 (.int .i64 a)).run Tryz.prog w = .ok () w := by
 rw [Instr.checkKey,Sem.run_bind,run_underlying Tryz.underlying3,Result.andThen_ok]
 simp
theorem chkPlace (e : Bool) (a b : Int) (w : World) : (Instr.checkKey e 10000 132 (.agg #[.int .i64 a,.int .i64 b])).run Tryz.prog w = .ok () w := by
 have p0 := part3 (cs := #[Value.int .i64 a,.int .i64 b]) (off := 0) rfl w
 have p1 := part3 (cs := #[Value.int .i64 a,.int .i64 b]) (off := 1) rfl w
 have q0 := chk3 e 9998 a w
 have q1 := chk3 e 9998 b w
 rw [show (10000 : Nat) = 9999 + 1 from rfl,Instr.checkKey,Sem.run_bind,run_underlying Tryz.underlying132,Result.andThen_ok]
 simp [Sem.run_bind,p0,p1,q0,q1,Result.andThen_ok]
theorem place_find (V : Nat × Nat → AV) (x : Nat × Nat) (ls : List (Nat × Nat)) :
  AggFinds Tryz.prog 132 (placeA x.1 x.2) (ls.map fun l => (placeA l.1 l.2,V l)) (if x ∈ ls then some (V x) else none) := by
 intro com w vk es hv hlen hr
 obtain rfl := rep_place hv
 refine ⟨?_,?_⟩
 ·exact fun e => chkPlace e _ _ w
 ·have h := findP_asking V (x := x) (com := com) (w := w) ls es 0 (by simpa using hlen) (fun i l m h1 h2 => hr i _ _ m (by rw [List.getElem?_map,h1]; rfl) h2)
  have hf := run_findKey_eq (P := Tryz.prog) (w := w) (k := 132) (by simp [Tryz.underlying132]) (placeV x) es
  by_cases q : x ∈ ls
  ·rw [if_pos q] at h ⊢
   simp only [hf]
   exact h
  ·rw [if_neg q] at h ⊢
   simp only [hf]
   exact h
set_option maxHeartbeats 4000000
set_option maxRecDepth 100000
def stepR (f s : List ByteArray) (kind : Int) (i k : Nat) : (Nat × Nat) × Int :=
 if kind = 2 then (if i < f.length then ((i + 1,k),1) else ((i,k),-1))
 else if kind = 3 then (if k < s.length then ((i,k + 1),1) else ((i,k),-1))
 else if i < f.length ∧ k < s.length then (if fitW s[k]! f[i]! = decide (kind = 0) then ((i + 1,k + 1),kind) else ((i,k),-1))
 else ((i,k),-1)
def stepA (r : (Nat × Nat) × Int) : AV := .tuple [placeA r.1.1 r.1.2,.int .i64 r.2]
theorem step_c (f s : List ByteArray) (b i k : Nat) (kind : Int) (hk0 : 0 ≤ kind) (hk3 : kind ≤ 3) (hi : i ≤ f.length) (hk : k ≤ s.length) (hfl : f.length ≤ 1000000) (hsl : s.length ≤ 1000000) :
  PCall Tryz.prog 66 [.eptr (readerL f s b),.int .i64 kind,placeA i k] (stepA (stepR f s kind i k)) := by
 intro m
 have hfit := fun h1 h2 => fits_c f s b i k h1 h2
 have hi2 : ((f.length : Int) < (i : Int)) = False := by simp; omega
 have hk2 : ((s.length : Int) < (k : Int)) = False := by simp; omega
 have hqi : (((f.length : Int) < (i : Int) + 1) = True ∧ ¬ i < f.length) ∨ (((f.length : Int) < (i : Int) + 1) = False ∧ i < f.length) := by
  by_cases q : i < f.length
  ·right; exact ⟨by simp; omega,q⟩
  ·left; exact ⟨by simp; omega,q⟩
 have hqk : (((s.length : Int) < (k : Int) + 1) = True ∧ ¬ k < s.length) ∨ (((s.length : Int) < (k : Int) + 1) = False ∧ k < s.length) := by
  by_cases q : k < s.length
  ·right; exact ⟨by simp; omega,q⟩
  ·left; exact ⟨by simp; omega,q⟩
 obtain ⟨R,hR⟩ : ∃ R,R = stepR f s kind i k := ⟨_,rfl⟩
 rw [← hR]
 unfold stepR at hR
 have hc : kind = 0 ∨ kind = 1 ∨ kind = 2 ∨ kind = 3 := by omega
 simp only [readerL,placeA,strs,stepA] at hfit ⊢
 rcases hc with rfl | rfl | rfl | rfl
 ·rcases hqi with ⟨e1,q1⟩ | ⟨e1,q1⟩ <;> rcases hqk with ⟨e2,q2⟩ | ⟨e2,q2⟩
  all_goals
   (refine acall_intro (E := envC (modeAt [6,9] []) false []) (envCOk _ _ _) rfl Tryz.func66 rfl Tryz.call66 (by kernel_rfl) (by simp [Tryz.ntmps66]) ?_; simp only [Tryz.f66];  simp(maxSteps:=9^9)only[↓VX,VQ,seval,e1,e2,Int.reduceEq])
   repeat'(first|intro _|apply And.intro)
   all_goals try first|omega|(simp only[LL];omega)|exact nlC (by decide) _|exact nbC rfl
   (refine adraw (by first | exact envOk _ | exact envCOk _ _ _) mixed [⟨false,false,0⟩,⟨false,false,0⟩,⟨false,false,0⟩,⟨false,false,0⟩,⟨false,false,0⟩,⟨false,false,0⟩,⟨false,false,0⟩,⟨false,false,0⟩,⟨false,false,0⟩,⟨false,false,0⟩,⟨false,false,0⟩,⟨false,false,0⟩,⟨false,false,0⟩,⟨false,false,0⟩,⟨false,false,0⟩,⟨false,false,0⟩,⟨false,false,0⟩,⟨false,false,0⟩] (by kernel_rfl) ?_; show vcOpsD _ _ _ (_ :: _) _ _)
   simp(maxSteps:=9^9)only[↓VX,VQ,seval,e1,e2,Int.reduceEq]
   try (rw [hR]; simp [q1,q2]; done)
  have hf := hfit q1 q2
  obtain ⟨B,hB⟩ : ∃ B,fitW s[k]! f[i]! = B := ⟨_,rfl⟩
  rw [hB] at hf hR
  (refine ACall.pure (hf) ?_; try simp(maxSteps:=9^9)only[↓VX,VQ,seval])
  cases B
  all_goals
   try simp(maxSteps:=9^9)only[↓VX,VQ,seval,Int.reduceEq]
   rw [hR]
   simp [q1,q2]
 ·rcases hqi with ⟨e1,q1⟩ | ⟨e1,q1⟩ <;> rcases hqk with ⟨e2,q2⟩ | ⟨e2,q2⟩
  all_goals
   (refine acall_intro (E := envC (modeAt [6,9] []) false []) (envCOk _ _ _) rfl Tryz.func66 rfl Tryz.call66 (by kernel_rfl) (by simp [Tryz.ntmps66]) ?_; simp only [Tryz.f66];  simp(maxSteps:=9^9)only[↓VX,VQ,seval,e1,e2,Int.reduceEq])
   repeat'(first|intro _|apply And.intro)
   all_goals try first|omega|(simp only[LL];omega)|exact nlC (by decide) _|exact nbC rfl
   (refine adraw (by first | exact envOk _ | exact envCOk _ _ _) mixed [⟨false,false,0⟩,⟨false,false,0⟩,⟨false,false,0⟩,⟨false,false,0⟩,⟨false,false,0⟩,⟨false,false,0⟩,⟨false,false,0⟩,⟨false,false,0⟩,⟨false,false,0⟩,⟨false,false,0⟩,⟨false,false,0⟩,⟨false,false,0⟩,⟨false,false,0⟩,⟨false,false,0⟩,⟨false,false,0⟩,⟨false,false,0⟩,⟨false,false,0⟩,⟨false,false,0⟩] (by kernel_rfl) ?_; show vcOpsD _ _ _ (_ :: _) _ _)
   simp(maxSteps:=9^9)only[↓VX,VQ,seval,e1,e2,Int.reduceEq]
   try (rw [hR]; simp [q1,q2]; done)
  have hf := hfit q1 q2
  obtain ⟨B,hB⟩ : ∃ B,fitW s[k]! f[i]! = B := ⟨_,rfl⟩
  rw [hB] at hf hR
  (refine ACall.pure (hf) ?_; try simp(maxSteps:=9^9)only[↓VX,VQ,seval])
  cases B
  all_goals
   try simp(maxSteps:=9^9)only[↓VX,VQ,seval,Int.reduceEq]
   rw [hR]
   simp [q1,q2]
 ·rcases hqi with ⟨e1,q1⟩ | ⟨e1,q1⟩
  all_goals
   (refine acall_intro (E := envC (modeAt [6,9] []) false []) (envCOk _ _ _) rfl Tryz.func66 rfl Tryz.call66 (by kernel_rfl) (by simp [Tryz.ntmps66]) ?_; simp only [Tryz.f66];  simp(maxSteps:=9^9)only[↓VX,VQ,seval,e1,hk2,Int.reduceEq])
   repeat'(first|intro _|apply And.intro)
   all_goals try first|omega|(simp only[LL];omega)|exact nlC (by decide) _|exact nbC rfl
   (refine adraw (by first | exact envOk _ | exact envCOk _ _ _) mixed [⟨false,false,0⟩,⟨false,false,0⟩,⟨false,false,0⟩,⟨false,false,0⟩,⟨false,false,0⟩,⟨false,false,0⟩,⟨false,false,0⟩,⟨false,false,0⟩,⟨false,false,0⟩,⟨false,false,0⟩,⟨false,false,0⟩,⟨false,false,0⟩,⟨false,false,0⟩,⟨false,false,0⟩,⟨false,false,0⟩,⟨false,false,0⟩,⟨false,false,0⟩,⟨false,false,0⟩] (by kernel_rfl) ?_; show vcOpsD _ _ _ (_ :: _) _ _)
   simp(maxSteps:=9^9)only[↓VX,VQ,seval,e1,hk2,Int.reduceEq]
   rw [hR]; simp [q1]
 ·rcases hqk with ⟨e2,q2⟩ | ⟨e2,q2⟩
  all_goals
   (refine acall_intro (E := envC (modeAt [6,9] []) false []) (envCOk _ _ _) rfl Tryz.func66 rfl Tryz.call66 (by kernel_rfl) (by simp [Tryz.ntmps66]) ?_; simp only [Tryz.f66];  simp(maxSteps:=9^9)only[↓VX,VQ,seval,hi2,e2,Int.reduceEq])
   repeat'(first|intro _|apply And.intro)
   all_goals try first|omega|(simp only[LL];omega)|exact nlC (by decide) _|exact nbC rfl
   (refine adraw (by first | exact envOk _ | exact envCOk _ _ _) mixed [⟨false,false,0⟩,⟨false,false,0⟩,⟨false,false,0⟩,⟨false,false,0⟩,⟨false,false,0⟩,⟨false,false,0⟩,⟨false,false,0⟩,⟨false,false,0⟩,⟨false,false,0⟩,⟨false,false,0⟩,⟨false,false,0⟩,⟨false,false,0⟩,⟨false,false,0⟩,⟨false,false,0⟩,⟨false,false,0⟩,⟨false,false,0⟩,⟨false,false,0⟩,⟨false,false,0⟩] (by kernel_rfl) ?_; show vcOpsD _ _ _ (_ :: _) _ _)
   simp(maxSteps:=9^9)only[↓VX,VQ,seval,hi2,e2,Int.reduceEq]
   rw [hR]; simp [q2]
def leastBy (v : Int → Int) (l : List Int) : Int × Int := l.foldl (fun b x => if 0 ≤ v x ∧ (b.2 < 0 ∨ v x < b.2) then (x,v x) else b) (0,-1)
theorem leastBy_succ (v : Int → Int) {l : List Int} {k : Nat} (hk : k < l.length) : leastBy v (l.take (k + 1)) = if 0 ≤ v l[k]! ∧ ((leastBy v (l.take k)).2 < 0 ∨ v l[k]! < (leastBy v (l.take k)).2) then (l[k]!,v l[k]!) else leastBy v (l.take k) := by
 unfold leastBy
 rw [List.take_add_one,List.getElem?_eq_getElem hk,Option.toList_some,List.foldl_append,getElem!_pos l k hk]
 rfl
theorem least_c (g : FuncId) (caps : List AV) (v : Int → Int) (l : List Int) (J : Mem → Prop) (h : ∀ x ∈ l,∀ m,J m → ACall Tryz.prog g ([.int .i64 x] ++ caps) m fun r m' => r = .int .i64 (v x) ∧ J m') (m : Mem) (hJ : J m) :
  ACall Tryz.prog 95 [ints l,.fn (.func g) [] caps] m fun r m' => r = .tuple [.int .i64 (leastBy v l).1,.int .i64 (leastBy v l).2] ∧ J m' := by
 simp only [ints,List.cons_append,List.nil_append] at h ⊢
 (refine acall_len Tryz.call95 fun hlen => ?_; refine acall_intro (E := env fun _ => .imm) (envOk _) rfl Tryz.func95 rfl Tryz.call95 (by kernel_rfl) (by simp [Tryz.ntmps95]) ?_; simp only [Tryz.f95];  simp(maxSteps:=9^9)only[↓VX,VQ,seval])
 simp only [lenOk_cons,lenOk_nil,List.length_map,and_true,maxLen_eq] at hlen
 repeat'(first|intro _|apply And.intro)
 refine aloop (envOk _) (fun q : Nat × Mem => ⟨[(1,.v (.fn (.func g) [] caps)),(4,.v (.int .i64 (leastBy v (l.take q.1)).1)),(5,.v (.int .i64 (leastBy v (l.take q.1)).2)),(9,.v (.slice 1 (l.map (AV.int .i64)))),(10,.v (.int .i64 l.length)),(11,.v (.int .i64 q.1))],[],[],q.2⟩)
  (fun q => q.1 ≤ l.length ∧ J q.2) (fun q => l.length - q.1) (0,m) (fun _ => rfl) ⟨Nat.zero_le _,hJ⟩ (by (simp only [FE,↓FP,seval]); try simp [leastBy]) ?_
 rintro ⟨k,m1⟩ ⟨hk,hJ1⟩
 dsimp only at hk hJ1
 by_cases hlt : k < l.length
 ·have hs := leastBy_succ v hlt
  have hc := h l[k]! (by rw [getD_any hlt]; exact List.getElem_mem hlt) m1 hJ1
  obtain ⟨B,hB⟩ : ∃ B,leastBy v (l.take k) = B := ⟨_,rfl⟩
  obtain ⟨V,hV⟩ : ∃ V,v l[k]! = V := ⟨_,rfl⟩
  rw [hB,hV] at hs
  rw [hV] at hc
  obtain ⟨b1,b2⟩ := B
  dsimp only at hs
  have hk' : ((k : Int) < (l.length : Int)) = True := by simp; omega
  simp(maxSteps:=9^9)only[↓VX,VQ,seval,hB,hk']
  repeat'(first|intro _|apply And.intro)
  all_goals try first|omega|(simp only[LL];omega)|exact nlC (by decide) _|exact nbC rfl
  refine ACall.told hc ?_
  rintro r m2 ⟨rfl,hJ2⟩
  simp(maxSteps:=9^9)only[↓VX,VQ,seval]
  repeat'(first|intro _|apply And.intro)
  all_goals try first|omega|(simp only[LL];omega)|exact nlC (by decide) _|exact nbC rfl
  all_goals
   refine ⟨(k + 1,m2),⟨by dsimp only; omega,hJ2⟩,by dsimp only; omega,?_⟩
   first
   | rw [if_pos (by omega)] at hs
   | rw [if_neg (by omega)] at hs
   (simp only [FE,↓FP,seval])
   simp [hs]
 ·have hke : k = l.length := by omega
  subst hke
  rw [List.take_length]
  simp(maxSteps:=9^9)only[↓VX,VQ,seval]
  repeat'(first|intro _|apply And.intro)
  all_goals try first|omega|(simp only[LL];omega)|exact nlC (by decide) _|exact nbC rfl
  all_goals first | exact ⟨rfl,hJ1⟩ | skip
def leftP (f s : List ByteArray) (x : Nat × Nat) : Int := (dist (f.drop x.1) (s.drop x.2) : Nat)
def ofP (f s : List ByteArray) (i k : Nat) (kind : Int) : Int := if (stepR f s kind i k).2 < 0 then -1 else (stepR f s kind i k).2 + leftP f s (stepR f s kind i k).1
theorem drop_here {f : List ByteArray} {i : Nat} (h : i < f.length) : f.drop i = f[i]! :: f.drop (i + 1) := by
 rw [List.drop_eq_getElem_cons h,getElem!_pos f i h]
theorem drop_end {f : List ByteArray} {i : Nat} (h : ¬ i < f.length) : f.drop i = [] := List.drop_eq_nil_of_le (by omega)
theorem dist_cons (a b : ByteArray) (f s : List ByteArray) : dist (a :: f) (b :: s) = min (min (if fitW b a = true then dist f s else 1 + dist f s) (1 + dist f (b :: s))) (1 + dist (a :: f) s) := rfl
theorem dist_drop (a : ByteArray) (f : List ByteArray) : dist (a :: f) [] = 1 + dist f [] := rfl
theorem dist_put (s : List ByteArray) : dist [] s = s.length := rfl
theorem fold4 (v0 v1 v2 v3 : Int) (K : Nat) (D : Int)
  (hD : (0 ≤ v0 → D ≤ v0) ∧ (0 ≤ v1 → D ≤ v1) ∧ (0 ≤ v2 → D ≤ v2) ∧ (0 ≤ v3 → D ≤ v3))
  (hK : 0 ≤ D ∧ ((K = 0 ∧ v0 = D) ∨ (K = 1 ∧ v0 ≠ D ∧ v1 = D) ∨ (K = 2 ∧ v0 ≠ D ∧ v1 ≠ D ∧ v2 = D) ∨ (K = 3 ∧ v0 ≠ D ∧ v1 ≠ D ∧ v2 ≠ D ∧ v3 = D))) :
  (fun b : Int × Int => if 0 ≤ v3 ∧ (b.2 < 0 ∨ v3 < b.2) then ((3 : Int),v3) else b) ((fun b : Int × Int => if 0 ≤ v2 ∧ (b.2 < 0 ∨ v2 < b.2) then ((2 : Int),v2) else b)
   ((fun b : Int × Int => if 0 ≤ v1 ∧ (b.2 < 0 ∨ v1 < b.2) then ((1 : Int),v1) else b) ((fun b : Int × Int => if 0 ≤ v0 ∧ (b.2 < 0 ∨ v0 < b.2) then ((0 : Int),v0) else b) (0,-1)))) = ((K : Int),D) := by
 dsimp only
 have e0 : (if 0 ≤ v0 ∧ ((-1 : Int) < 0 ∨ v0 < -1) then ((0 : Int),v0) else (0,-1)) = (0,if 0 ≤ v0 then v0 else -1) := by
  by_cases q : 0 ≤ v0
  ·rw [if_pos ⟨q,.inl (by decide)⟩,if_pos q]
  ·rw [if_neg (fun e => q e.1),if_neg q]
 rw [e0]
 obtain ⟨u0,hu0⟩ : ∃ u,u = (if 0 ≤ v0 then v0 else -1) := ⟨_,rfl⟩
 rw [← hu0]
 have hu0' : (0 ≤ v0 ∧ u0 = v0) ∨ (v0 < 0 ∧ u0 = -1) := by rw [hu0]; split <;> omega
 clear hu0
 dsimp only
 obtain ⟨b1,hb1⟩ : ∃ b,b = (if 0 ≤ v1 ∧ (u0 < 0 ∨ v1 < u0) then ((1 : Int),v1) else (0,u0)) := ⟨_,rfl⟩
 rw [← hb1]
 have hb1' : (b1.1 = 1 ∧ b1.2 = v1 ∧ 0 ≤ v1 ∧ (u0 < 0 ∨ v1 < u0)) ∨ (b1.1 = 0 ∧ b1.2 = u0 ∧ ¬ (0 ≤ v1 ∧ (u0 < 0 ∨ v1 < u0))) := by
  rw [hb1]; split
  ·rename_i q; exact .inl ⟨rfl,rfl,q⟩
  ·rename_i q; exact .inr ⟨rfl,rfl,q⟩
 clear hb1
 obtain ⟨b2,hb2⟩ : ∃ b,b = (if 0 ≤ v2 ∧ (b1.2 < 0 ∨ v2 < b1.2) then ((2 : Int),v2) else b1) := ⟨_,rfl⟩
 rw [← hb2]
 have hb2' : (b2.1 = 2 ∧ b2.2 = v2 ∧ 0 ≤ v2 ∧ (b1.2 < 0 ∨ v2 < b1.2)) ∨ (b2.1 = b1.1 ∧ b2.2 = b1.2 ∧ ¬ (0 ≤ v2 ∧ (b1.2 < 0 ∨ v2 < b1.2))) := by
  rw [hb2]; split
  ·rename_i q; exact .inl ⟨rfl,rfl,q⟩
  ·rename_i q; exact .inr ⟨rfl,rfl,q⟩
 clear hb2
 split
 ·rename_i q
  refine Prod.ext ?_ ?_ <;> dsimp only <;> omega
 ·rename_i q
  refine Prod.ext ?_ ?_ <;> dsimp only <;> omega
theorem of0 (f s : List ByteArray) (i k : Nat) : ofP f s i k 0 = if i < f.length ∧ k < s.length ∧ fitW s[k]! f[i]! = true then leftP f s (i + 1,k + 1) else -1 := by
 unfold ofP stepR
 by_cases q : i < f.length ∧ k < s.length
 ·cases hB : fitW s[k]! f[i]! <;> simp [q]
 ·by_cases q2 : i < f.length ∧ k < s.length ∧ fitW s[k]! f[i]! = true
  ·exact absurd ⟨q2.1,q2.2.1⟩ q
  ·rw [if_neg q2]; simp only [Int.reduceEq,if_false,if_neg q]; rw [if_pos (by decide)]
theorem of1 (f s : List ByteArray) (i k : Nat) : ofP f s i k 1 = if i < f.length ∧ k < s.length ∧ fitW s[k]! f[i]! = false then 1 + leftP f s (i + 1,k + 1) else -1 := by
 unfold ofP stepR
 by_cases q : i < f.length ∧ k < s.length
 ·cases hB : fitW s[k]! f[i]! <;> simp [q]
 ·by_cases q2 : i < f.length ∧ k < s.length ∧ fitW s[k]! f[i]! = false
  ·exact absurd ⟨q2.1,q2.2.1⟩ q
  ·rw [if_neg q2]; simp only [Int.reduceEq,if_false,if_neg q]; rw [if_pos (by decide)]
theorem of2 (f s : List ByteArray) (i k : Nat) : ofP f s i k 2 = if i < f.length then 1 + leftP f s (i + 1,k) else -1 := by
 unfold ofP stepR
 by_cases q : i < f.length <;> simp [q]
theorem of3 (f s : List ByteArray) (i k : Nat) : ofP f s i k 3 = if k < s.length then 1 + leftP f s (i,k + 1) else -1 := by
 unfold ofP stepR
 by_cases q : k < s.length <;> simp [q]
theorem least_kind (f s : List ByteArray) (i k : Nat) (hi : i ≤ f.length) (hk : k ≤ s.length) (hne : ¬ (i = f.length ∧ k = s.length)) :
  leastBy (ofP f s i k) [0,1,2,3] = (((kindOf (f.drop i) (s.drop k) : Nat) : Int),leftP f s (i,k)) := by
 unfold leastBy
 simp only [List.foldl_cons,List.foldl_nil]
 have h0 := of0 f s i k
 have h1 := of1 f s i k
 have h2 := of2 f s i k
 have h3 := of3 f s i k
 generalize ofP f s i k 0 = v0 at *
 generalize ofP f s i k 1 = v1 at *
 generalize ofP f s i k 2 = v2 at *
 generalize ofP f s i k 3 = v3 at *
 unfold leftP at *
 dsimp only at h0 h1 h2 h3 ⊢
 by_cases q1 : i < f.length
 ·rw [if_pos q1] at h2
  by_cases q2 : k < s.length
  ·rw [if_pos q2] at h3
   have e1 := drop_here q1
   have e2 := drop_here q2
   have hd := dist_cons f[i]! s[k]! (f.drop (i + 1)) (s.drop (k + 1))
   have hkd : kindOf (f[i]! :: f.drop (i + 1)) (s[k]! :: s.drop (k + 1)) = if fitW s[k]! f[i]! = true ∧ dist (f[i]! :: f.drop (i + 1)) (s[k]! :: s.drop (k + 1)) = dist (f.drop (i + 1)) (s.drop (k + 1)) then 0
    else if fitW s[k]! f[i]! = false ∧ dist (f[i]! :: f.drop (i + 1)) (s[k]! :: s.drop (k + 1)) = 1 + dist (f.drop (i + 1)) (s.drop (k + 1)) then 1
    else if dist (f[i]! :: f.drop (i + 1)) (s[k]! :: s.drop (k + 1)) = 1 + dist (f.drop (i + 1)) (s[k]! :: s.drop (k + 1)) then 2 else 3 := rfl
   rw [e2] at h2
   rw [e1] at h3
   rw [e1,e2,hkd]
   clear hkd e1 e2
   generalize dist (f[i]! :: f.drop (i + 1)) (s[k]! :: s.drop (k + 1)) = D at *
   generalize dist (f.drop (i + 1)) (s.drop (k + 1)) = d0 at *
   generalize dist (f.drop (i + 1)) (s[k]! :: s.drop (k + 1)) = d2 at *
   generalize dist (f[i]! :: f.drop (i + 1)) (s.drop (k + 1)) = d3 at *
   cases hB : fitW s[k]! f[i]!
   ·rw [hB] at hd h0 h1
    rw [if_neg (by simp)] at hd
    rw [if_neg (by simp)] at h0
    rw [if_pos ⟨q1,q2,rfl⟩] at h1
    simp only [Bool.false_eq_true,false_and,if_false,true_and]
    refine fold4 v0 v1 v2 v3 _ _ (by omega) ⟨by omega,?_⟩
    split
    ·omega
    ·split <;> omega
   ·rw [hB] at hd h0 h1
    rw [if_pos rfl] at hd
    rw [if_pos ⟨q1,q2,rfl⟩] at h0
    rw [if_neg (by simp)] at h1
    simp only [Bool.true_eq_false,false_and,if_false,true_and]
    refine fold4 v0 v1 v2 v3 _ _ (by omega) ⟨by omega,?_⟩
    split
    ·omega
    ·split <;> omega
  ·rw [if_neg (fun e => q2 e.2.1)] at h0 h1
   rw [if_neg q2] at h3
   have e1 := drop_here q1
   have e2 := drop_end q2
   have hd := dist_drop f[i]! (f.drop (i + 1))
   have hkd : kindOf (f[i]! :: f.drop (i + 1)) [] = 2 := rfl
   rw [e2] at h2
   rw [e1,e2,hkd,hd]
   exact fold4 v0 v1 v2 v3 _ _ (by omega) ⟨by omega,by omega⟩
 ·have q2 : k < s.length := by omega
  rw [if_neg (fun e => q1 e.1)] at h0 h1
  rw [if_neg q1] at h2
  rw [if_pos q2] at h3
  have e1 := drop_end q1
  have e2 := drop_here q2
  have hkd : kindOf [] (s[k]! :: s.drop (k + 1)) = 3 := rfl
  have hd := dist_put (s[k]! :: s.drop (k + 1))
  rw [e1,dist_put] at h3
  rw [List.length_cons] at hd
  rw [e1,e2,hkd,hd]
  exact fold4 v0 v1 v2 v3 _ _ (by omega) ⟨by omega,by omega⟩
theorem left_end (f s : List ByteArray) {i k : Nat} (hi : i = f.length) (hk : k = s.length) : kindOf (f.drop i) (s.drop k) = 4 ∧ leftP f s (i,k) = 0 := by
 subst hi; subst hk
 unfold leftP
 simp [kindOf,dist]
theorem step_in (f s : List ByteArray) {i k : Nat} {kind : Int} (h0 : 0 ≤ kind) (h3 : kind ≤ 3) (hi : i ≤ f.length) (hk : k ≤ s.length) (hs : ¬ (stepR f s kind i k).2 < 0) :
  (stepR f s kind i k).1.1 ≤ f.length ∧ (stepR f s kind i k).1.2 ≤ s.length ∧ i + k < (stepR f s kind i k).1.1 + (stepR f s kind i k).1.2 ∧ (stepR f s kind i k).2 ≤ 1 := by
 have hc : kind = 0 ∨ kind = 1 ∨ kind = 2 ∨ kind = 3 := by omega
 unfold stepR at *
 obtain ⟨B,hB⟩ : ∃ B,B = fitW s[k]! f[i]! := ⟨_,rfl⟩
 rw [← hB] at hs ⊢
 clear hB
 rcases hc with rfl | rfl | rfl | rfl
 ·by_cases q : i < f.length ∧ k < s.length
  ·cases B
   ·simp [q] at hs
   ·simp [q]; omega
  ·simp only [Int.reduceEq,if_false,if_neg q] at hs; exact absurd (by decide) hs
 ·by_cases q : i < f.length ∧ k < s.length
  ·cases B
   ·simp [q]; omega
   ·simp [q] at hs
  ·simp only [Int.reduceEq,if_false,if_neg q] at hs; exact absurd (by decide) hs
 ·by_cases q : i < f.length
  ·simp [q]; omega
  ·simp [q] at hs
 ·by_cases q : k < s.length
  ·simp [q]; omega
  ·simp [q] at hs
theorem distRow_le (a : ByteArray) {below : List ByteArray → Nat} {n : Nat} (h : ∀ s,below s ≤ n + s.length) : ∀ s,distRow a below s ≤ n + 1 + s.length
 | [] => by have := h []; simp only [distRow,List.length_nil] at *; omega
 | b :: s => by
  have h1 := h s
  have h2 := distRow_le a h s
  have h3 := h (b :: s)
  simp only [distRow,List.length_cons] at *
  split <;> omega
theorem dist_le : ∀ f s,dist f s ≤ f.length + s.length
 | [],s => by simp [dist]
 | a :: f,s => by
  have := distRow_le a (dist_le f) s
  simpa [dist] using this
theorem leftP_le (f s : List ByteArray) (x : Nat × Nat) : 0 ≤ leftP f s x ∧ leftP f s x ≤ (f.length : Int) + s.length := by
 have := dist_le (f.drop x.1) (s.drop x.2)
 rw [List.length_drop,List.length_drop] at this
 unfold leftP
 omega
end Go.Proofs.YtdmejgfcaacdoaaGreat.Abs
