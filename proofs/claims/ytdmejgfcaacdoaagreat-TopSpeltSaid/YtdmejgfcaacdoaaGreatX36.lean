/- Lemmas for the statements of this seat (X36): they hold without conditions beyond those that each one states. -/
import Derived.Test.YtdmejgfcaacdoaaGreatX35
import Derived.Test.YtdmejgfcaacdoaaGreatX34
import Derived.Test.YtdmejgfcaacdoaaGreatX14
import Derived.Test.YtdmejgfcaacdoaaGreatX20
import Derived.Test.YtdmejgfcaacdoaaGreatX9
/- Laws: sound strings as they lie in memory: '==',and as keys of a map. -/
namespace Go.Proofs.YtdmejgfcaacdoaaGreat.Abs
set_option linter.unusedSimpArgs false
open Go Go.RowKit Go.Proofs
def snd (h : List Nat) (i : Nat) : Int := ((h.getD i 0 : Nat) : Int)
def heardL (h : List Nat) : List AV := [.int .i64 h.length,.int .i64 (snd h 0),.int .i64 (snd h 1),.int .i64 (snd h 2),.int .i64 (snd h 3),.int .i64 (snd h 4)]
def heardA (h : List Nat) : AV := .agg (heardL h)
def heardV (h : List Nat) : Value := .agg #[.int .i64 h.length,.int .i64 (snd h 0),.int .i64 (snd h 1),.int .i64 (snd h 2),.int .i64 (snd h 3),.int .i64 (snd h 4)]
theorem eqFiveN (N : Nat) (a b c d e a' b' c' d' e' : Int) (w : World) : (Op.equalIn (N + 1 + 1) 108 (.agg #[.int .i64 a,.int .i64 b,.int .i64 c,.int .i64 d,.int .i64 e]) (.agg #[.int .i64 a',.int .i64 b',.int .i64 c',.int .i64 d',.int .i64 e'])).run Tryz.prog w =
   .ok (decide (a = a') && (decide (b = b') && (decide (c = c') && (decide (d = d') && (decide (e = e') && true))))) w := by
 have hsz : (sizeOf 3).run Tryz.prog w = .ok 1 w := tyok_3.size w
 have p0 := part3 (cs := #[Value.int .i64 a,.int .i64 b,.int .i64 c,.int .i64 d,.int .i64 e]) (off := 0) rfl w
 have p1 := part3 (cs := #[Value.int .i64 a,.int .i64 b,.int .i64 c,.int .i64 d,.int .i64 e]) (off := 1) rfl w
 have p2 := part3 (cs := #[Value.int .i64 a,.int .i64 b,.int .i64 c,.int .i64 d,.int .i64 e]) (off := 2) rfl w
 have p3 := part3 (cs := #[Value.int .i64 a,.int .i64 b,.int .i64 c,.int .i64 d,.int .i64 e]) (off := 3) rfl w
 have p4 := part3 (cs := #[Value.int .i64 a,.int .i64 b,.int .i64 c,.int .i64 d,.int .i64 e]) (off := 4) rfl w
 have t0 := part3 (cs := #[Value.int .i64 a',.int .i64 b',.int .i64 c',.int .i64 d',.int .i64 e']) (off := 0) rfl w
 have t1 := part3 (cs := #[Value.int .i64 a',.int .i64 b',.int .i64 c',.int .i64 d',.int .i64 e']) (off := 1) rfl w
 have t2 := part3 (cs := #[Value.int .i64 a',.int .i64 b',.int .i64 c',.int .i64 d',.int .i64 e']) (off := 2) rfl w
 have t3 := part3 (cs := #[Value.int .i64 a',.int .i64 b',.int .i64 c',.int .i64 d',.int .i64 e']) (off := 3) rfl w
 have t4 := part3 (cs := #[Value.int .i64 a',.int .i64 b',.int .i64 c',.int .i64 d',.int .i64 e']) (off := 4) rfl w
 have q0 := eqInt3 N a a' w
 have q1 := eqInt3 N b b' w
 have q2 := eqInt3 N c c' w
 have q3 := eqInt3 N d d' w
 have q4 := eqInt3 N e e' w
 rw [Op.equalIn]
 generalize hE : Op.equalIn (N + 1) = E
 rw [hE] at q0 q1 q2 q3 q4
 simp only [Sem.run_bind,run_underlying Tryz.underlying108,Result.andThen_ok,hsz]
 simp only [Std.Legacy.Range.forIn_eq_forIn_range',Std.Legacy.Range.size,Nat.sub_zero,Nat.add_sub_cancel,Nat.div_one,List.range'_succ,List.range'_zero,List.forIn_cons,List.forIn_nil,Nat.zero_add,Nat.reduceAdd,Nat.zero_mul,Nat.one_mul,Nat.reduceMul,Sem.run_bind,p0,p1,p2,p3,p4,t0,t1,t2,t3,t4,q0,q1,q2,q3,q4,Result.andThen_ok,Sem.run_ite,Sem.run_pure]
 clear hE
 rcases Decidable.em (a = a') with rfl | h1
 ·rcases Decidable.em (b = b') with rfl | h2
  ·rcases Decidable.em (c = c') with rfl | h3
   ·rcases Decidable.em (d = d') with rfl | h4
    ·rcases Decidable.em (e = e') with rfl | h5 <;> simp_all
    ·simp_all
   ·simp_all
  ·simp_all
 ·simp_all
theorem eqFiveTop (a b c d e a' b' c' d' e' : Int) (w : World) : (Op.equalIn 10000 108 (.agg #[.int .i64 a,.int .i64 b,.int .i64 c,.int .i64 d,.int .i64 e]) (.agg #[.int .i64 a',.int .i64 b',.int .i64 c',.int .i64 d',.int .i64 e'])).run Tryz.prog w =
   .ok (decide (a = a') && (decide (b = b') && (decide (c = c') && (decide (d = d') && (decide (e = e') && true))))) w := eqFiveN 9998 a b c d e a' b' c' d' e' w
theorem part5 (m a b c d e : Int) (w : World) : (part 108 #[.int .i64 m,.int .i64 a,.int .i64 b,.int .i64 c,.int .i64 d,.int .i64 e] 1).run Tryz.prog w = .ok (.agg #[.int .i64 a,.int .i64 b,.int .i64 c,.int .i64 d,.int .i64 e]) w := by
 unfold part
 rw [Sem.run_bind,tyok_108.agg w]
 simp [TyI.agg,Sem.run_bind,tyok_108.size w]
theorem eqHeard (m a b c d e m' a' b' c' d' e' : Int) (w : World) : (Op.equalIn 10000 154 (.agg #[.int .i64 m,.int .i64 a,.int .i64 b,.int .i64 c,.int .i64 d,.int .i64 e]) (.agg #[.int .i64 m',.int .i64 a',.int .i64 b',.int .i64 c',.int .i64 d',.int .i64 e'])).run Tryz.prog w =
  .ok (decide (m = m') && ((decide (a = a') && (decide (b = b') && (decide (c = c') && (decide (d = d') && (decide (e = e') && true))))) && true)) w := by
 have hu : Tryz.prog.underlying 154 = some (.struct (Tryz.prog.fieldsOf 154)) := by kernel_rfl
 have hs : Tryz.prog.stoodInHeld 154 = false := by kernel_rfl
 rw [run_equalIn_agg w 9999 154 _ _ hu hs]
 simp only [Program.fieldsOf,Tryz.underlying154]
 refine eqStep (by decide) rfl rfl rfl ?_
 unfold Op.eqFields
 rw [if_pos (by decide),Sem.run_bind]
 show ((part 108 _ 1).run Tryz.prog w).andThen _ = _
 rw [part5,Result.andThen_ok,Sem.run_bind]
 show ((part 108 _ 1).run Tryz.prog w).andThen _ = _
 rw [part5,Result.andThen_ok,Sem.run_bind,eqFiveN 9997,Result.andThen_ok]
 generalize (decide (a = a') && (decide (b = b') && (decide (c = c') && (decide (d = d') && (decide (e = e') && true))))) = r
 cases r <;> simp [Op.eqFields]
theorem eqFlatFive (a b c d e a' b' c' d' e' : Int) : EqFlat Tryz.prog 108 [.int .i64 a,.int .i64 b,.int .i64 c,.int .i64 d,.int .i64 e] [.int .i64 a',.int .i64 b',.int .i64 c',.int .i64 d',.int .i64 e']
  (decide (a = a') && (decide (b = b') && (decide (c = c') && (decide (d = d') && (decide (e = e') && true))))) := by
 intro vs vs' com w x y h h'
 obtain ⟨v1,vs,rfl,r1,h⟩ := Reps.cons_inv h
 obtain ⟨v2,vs,rfl,r2,h⟩ := Reps.cons_inv h
 obtain ⟨v3,vs,rfl,r3,h⟩ := Reps.cons_inv h
 obtain ⟨v4,vs,rfl,r4,h⟩ := Reps.cons_inv h
 obtain ⟨v5,vs,rfl,r5,h⟩ := Reps.cons_inv h
 obtain rfl := Reps.nil_inv h
 obtain ⟨u1,us,rfl,s1,h'⟩ := Reps.cons_inv h'
 obtain ⟨u2,us,rfl,s2,h'⟩ := Reps.cons_inv h'
 obtain ⟨u3,us,rfl,s3,h'⟩ := Reps.cons_inv h'
 obtain ⟨u4,us,rfl,s4,h'⟩ := Reps.cons_inv h'
 obtain ⟨u5,us,rfl,s5,h'⟩ := Reps.cons_inv h'
 obtain rfl := Reps.nil_inv h'
 obtain rfl := rep_int r1; obtain rfl := rep_int r2; obtain rfl := rep_int r3; obtain rfl := rep_int r4; obtain rfl := rep_int r5
 obtain rfl := rep_int s1; obtain rfl := rep_int s2; obtain rfl := rep_int s3; obtain rfl := rep_int s4; obtain rfl := rep_int s5
 have hg : Tryz.prog.eqGuardType Tryz.prog.depth 108 = false := by kernel_rfl
 have key := eqFiveTop a b c d e a' b' c' d' e' w
 constructor
 ·rw [Sem.run_bind,run_eqGuard_agg w .eql 108 x y _ _ hg,Result.andThen_ok,run_eql_struct,key]; rfl
 ·rw [Sem.run_bind,run_eqGuard_agg w .neq 108 x y _ _ hg,Result.andThen_ok,run_neq_struct,key]; rfl
theorem eqFlatHeard (m a b c d e m' a' b' c' d' e' : Int) : EqFlat Tryz.prog 154 [.int .i64 m,.int .i64 a,.int .i64 b,.int .i64 c,.int .i64 d,.int .i64 e] [.int .i64 m',.int .i64 a',.int .i64 b',.int .i64 c',.int .i64 d',.int .i64 e']
  (decide (m = m') && ((decide (a = a') && (decide (b = b') && (decide (c = c') && (decide (d = d') && (decide (e = e') && true))))) && true)) := by
 intro vs vs' com w x y h h'
 obtain ⟨v0,vs,rfl,r0,h⟩ := Reps.cons_inv h
 obtain ⟨v1,vs,rfl,r1,h⟩ := Reps.cons_inv h
 obtain ⟨v2,vs,rfl,r2,h⟩ := Reps.cons_inv h
 obtain ⟨v3,vs,rfl,r3,h⟩ := Reps.cons_inv h
 obtain ⟨v4,vs,rfl,r4,h⟩ := Reps.cons_inv h
 obtain ⟨v5,vs,rfl,r5,h⟩ := Reps.cons_inv h
 obtain rfl := Reps.nil_inv h
 obtain ⟨u0,us,rfl,s0,h'⟩ := Reps.cons_inv h'
 obtain ⟨u1,us,rfl,s1,h'⟩ := Reps.cons_inv h'
 obtain ⟨u2,us,rfl,s2,h'⟩ := Reps.cons_inv h'
 obtain ⟨u3,us,rfl,s3,h'⟩ := Reps.cons_inv h'
 obtain ⟨u4,us,rfl,s4,h'⟩ := Reps.cons_inv h'
 obtain ⟨u5,us,rfl,s5,h'⟩ := Reps.cons_inv h'
 obtain rfl := Reps.nil_inv h'
 obtain rfl := rep_int r0; obtain rfl := rep_int r1; obtain rfl := rep_int r2; obtain rfl := rep_int r3; obtain rfl := rep_int r4; obtain rfl := rep_int r5
 obtain rfl := rep_int s0; obtain rfl := rep_int s1; obtain rfl := rep_int s2; obtain rfl := rep_int s3; obtain rfl := rep_int s4; obtain rfl := rep_int s5
 have hg : Tryz.prog.eqGuardType Tryz.prog.depth 154 = false := by kernel_rfl
 have key := eqHeard m a b c d e m' a' b' c' d' e' w
 constructor
 ·rw [Sem.run_bind,run_eqGuard_agg w .eql 154 x y _ _ hg,Result.andThen_ok,run_eql_struct,key]; rfl
 ·rw [Sem.run_bind,run_eqGuard_agg w .neq 154 x y _ _ hg,Result.andThen_ok,run_neq_struct,key]; rfl
theorem rep_heard {com : Nat → Nat} {w : World} {x : List Nat} {v : Value} (h : Rep com w (heardA x) v) : v = heardV x := by
 cases h with
 | agg _ vs hl h =>
  have hr : Reps com w (heardL x) vs := ⟨hl,h⟩
  unfold heardL at hr
  obtain ⟨v0,vs,rfl,r0,hr⟩ := Reps.cons_inv hr
  obtain ⟨v1,vs,rfl,r1,hr⟩ := Reps.cons_inv hr
  obtain ⟨v2,vs,rfl,r2,hr⟩ := Reps.cons_inv hr
  obtain ⟨v3,vs,rfl,r3,hr⟩ := Reps.cons_inv hr
  obtain ⟨v4,vs,rfl,r4,hr⟩ := Reps.cons_inv hr
  obtain ⟨v5,vs,rfl,r5,hr⟩ := Reps.cons_inv hr
  obtain rfl := Reps.nil_inv hr
  obtain rfl := rep_int r0; obtain rfl := rep_int r1; obtain rfl := rep_int r2; obtain rfl := rep_int r3; obtain rfl := rep_int r4; obtain rfl := rep_int r5
  rfl
theorem heard_same {x y : List Nat} (hx : x.length ≤ 5) (hy : y.length ≤ 5) :
  (decide ((x.length : Int) = y.length) && ((decide (snd x 0 = snd y 0) && (decide (snd x 1 = snd y 1) && (decide (snd x 2 = snd y 2) && (decide (snd x 3 = snd y 3) && (decide (snd x 4 = snd y 4) && true))))) && true)) = decide (x = y) := by
 rw [Bool.eq_iff_iff]
 simp only [Bool.and_eq_true,decide_eq_true_eq,and_true]
 constructor
 ·rintro ⟨hl,h0,h1,h2,h3,h4⟩
  refine List.ext_getElem (by omega) fun i g1 g2 => ?_
  have hi : i = 0 ∨ i = 1 ∨ i = 2 ∨ i = 3 ∨ i = 4 := by omega
  have e : snd x i = snd y i := by rcases hi with rfl | rfl | rfl | rfl | rfl <;> assumption
  unfold snd at e
  rw [List.getD_eq_getElem?_getD,List.getD_eq_getElem?_getD,List.getElem?_eq_getElem g1,List.getElem?_eq_getElem g2] at e
  simp only [Option.getD_some] at e
  omega
 ·rintro rfl; simp
theorem equal_heard {x y : List Nat} (hx : x.length ≤ 5) (hy : y.length ≤ 5) (w : World) : (Op.equal 154 (heardV x) (heardV y)).run Tryz.prog w = .ok (decide (x = y)) w := by
 rw [← heard_same hx hy]
 exact eqHeard _ _ _ _ _ _ _ _ _ _ _ _ w
def atH (ks : List (List Nat)) (x : List Nat) : Option Nat := ks.findIdx? fun y => decide (y = x)
theorem heard_asking (V : List Nat → AV) {x : List Nat} (hx : x.length ≤ 5) {com : Nat → Nat} {w : World} : ∀ (ks : List (List Nat)) (es : List MapEntry) (i : Nat),(∀ y ∈ ks,y.length ≤ 5) → ks.length = es.length →
  (∀ (i : Nat) (l : List Nat) (m : MapEntry),ks[i]? = some l → es[i]? = some m → Rep com w (heardA l) m.key ∧ Rep com w (V l) m.val) →
  match atH ks x with
  | some j => ∃ m,es[j]? = some m ∧ m.key = heardV x ∧ (Instr.findAsking 154 (heardV x) es i).run Tryz.prog w = .ok (some (i + j,m.val)) w
  | none => (Instr.findAsking 154 (heardV x) es i).run Tryz.prog w = .ok none w
 | [],[],i,_,_,_ => by simp [Instr.findAsking,atH]
 | [],_ :: _,_,_,hl,_ => by simp at hl
 | _ :: _,[],_,_,hl,_ => by simp at hl
 | l :: ks,e :: es,i,h5,hl,hr => by
  have ih := heard_asking V hx ks es (i + 1) (fun y hy => h5 y (List.mem_cons_of_mem _ hy)) (by simpa using hl) (fun j y m h1 h2 => hr (j + 1) y m (by simpa using h1) (by simpa using h2))
  have h0 := hr 0 l e rfl rfl
  have hk := rep_heard h0.1
  have he := equal_heard hx (h5 l List.mem_cons_self) w
  have key : (Instr.findAsking 154 (heardV x) (e :: es) i).run Tryz.prog w = if x = l then .ok (some (i,e.val)) w else (Instr.findAsking 154 (heardV x) es (i + 1)).run Tryz.prog w := by
   rw [Instr.findAsking,hk,Sem.run_bind,he,Result.andThen_ok]
   by_cases q : x = l
   ·simp [q]
   ·simp [q]
  by_cases q : x = l
  ·subst q
   have ha : atH (x :: ks) x = some 0 := by simp [atH,List.findIdx?_cons]
   rw [ha]
   exact ⟨e,rfl,hk,by rw [key,if_pos rfl]; rfl⟩
  ·have ha : atH (l :: ks) x = (atH ks x).map (· + 1) := by
    unfold atH
    rw [List.findIdx?_cons,decide_eq_false (fun e => q e.symm)]
    rfl
   rw [ha,key,if_neg q]
   cases hx2 : atH ks x with
   | none => rw [hx2] at ih; exact ih
   | some j =>
    rw [hx2] at ih
    obtain ⟨m,g1,g2,g3⟩ := ih
    exact ⟨m,by simpa using g1,g2,by rw [g3,Nat.add_assoc,Nat.add_comm 1 j]⟩
theorem chkFive (e : Bool) (N : Nat) (a b c d f : Int) (w : World) : (Instr.checkKey e (N + 1 + 1) 108 (.agg #[.int .i64 a,.int .i64 b,.int .i64 c,.int .i64 d,.int .i64 f])).run Tryz.prog w = .ok () w := by
 have hsz : (sizeOf 3).run Tryz.prog w = .ok 1 w := tyok_3.size w
 have p0 := part3 (cs := #[Value.int .i64 a,.int .i64 b,.int .i64 c,.int .i64 d,.int .i64 f]) (off := 0) (v := .int .i64 a) rfl w
 have p1 := part3 (cs := #[Value.int .i64 a,.int .i64 b,.int .i64 c,.int .i64 d,.int .i64 f]) (off := 1) (v := .int .i64 b) rfl w
 have p2 := part3 (cs := #[Value.int .i64 a,.int .i64 b,.int .i64 c,.int .i64 d,.int .i64 f]) (off := 2) (v := .int .i64 c) rfl w
 have p3 := part3 (cs := #[Value.int .i64 a,.int .i64 b,.int .i64 c,.int .i64 d,.int .i64 f]) (off := 3) (v := .int .i64 d) rfl w
 have p4 := part3 (cs := #[Value.int .i64 a,.int .i64 b,.int .i64 c,.int .i64 d,.int .i64 f]) (off := 4) (v := .int .i64 f) rfl w
 have q0 := chk3 e N a w
 have q1 := chk3 e N b w
 have q2 := chk3 e N c w
 have q3 := chk3 e N d w
 have q4 := chk3 e N f w
 rw [Instr.checkKey,Sem.run_bind,run_underlying Tryz.underlying108,Result.andThen_ok]
 simp [Sem.run_bind,Result.andThen_ok,hsz,Std.Legacy.Range.forIn_eq_forIn_range',Std.Legacy.Range.size,List.range'_succ,p0,p1,p2,p3,p4,q0,q1,q2,q3,q4]
theorem chkHeard (e : Bool) (x : List Nat) (w : World) : (Instr.checkKey e 10000 154 (heardV x)).run Tryz.prog w = .ok () w := by
 unfold heardV
 generalize ((x.length : Nat) : Int) = m
 generalize snd x 0 = a
 generalize snd x 1 = b
 generalize snd x 2 = c
 generalize snd x 3 = d
 generalize snd x 4 = f
 have p0 := part3 (cs := #[Value.int .i64 m,.int .i64 a,.int .i64 b,.int .i64 c,.int .i64 d,.int .i64 f]) (off := 0) (v := .int .i64 m) rfl w
 have p1 := part5 m a b c d f w
 have q0 := chk3 e 9998 m w
 have q1 := chkFive e 9997 a b c d f w
 rw [show (10000 : Nat) = 9999 + 1 from rfl,Instr.checkKey,Sem.run_bind,run_underlying Tryz.underlying154,Result.andThen_ok]
 simp [Sem.run_bind,p0,p1,q0,q1,Result.andThen_ok]
theorem stays_heard (x : List Nat) (w : World) : (Instr.keyThatStays (heardV x) (heardV x)).run Tryz.prog w = .ok (heardV x) w := by
 have h : Instr.sameBits 10000 (heardV x) (heardV x) = true := by
  rw [show (10000 : Nat) = 9999 + 1 from rfl]
  simp [Instr.sameBits,heardV]
 simp [Instr.keyThatStays,h]
theorem heard_at (V : List Nat → AV) {x : List Nat} (hx : x.length ≤ 5) {ks : List (List Nat)} (hk : ∀ y ∈ ks,y.length ≤ 5) : KeyAt Tryz.prog 154 (heardA x) (ks.map fun h => (heardA h,V h)) (atH ks x) := by
 refine ⟨fun com w vk es hv hlen hr => ?_⟩
 obtain rfl := rep_heard hv
 refine ⟨fun e => chkHeard e x w,?_⟩
 have h := heard_asking V hx (com := com) (w := w) ks es 0 hk (by simpa using hlen) (fun i l m h1 h2 => hr i _ _ m (by rw [List.getElem?_map,h1]; rfl) h2)
 have hf := run_findKey_eq (P := Tryz.prog) (w := w) (k := 154) (by simp [Tryz.underlying154]) (heardV x) es
 cases ha : atH ks x with
 | none => rw [ha] at h; dsimp only; rw [hf]; exact h
 | some j =>
  rw [ha] at h
  obtain ⟨m,g1,g2,g3⟩ := h
  exact ⟨m,g1,g2,by rw [hf,g3,Nat.zero_add],stays_heard x w⟩
set_option maxHeartbeats 4000000
set_option maxRecDepth 100000
theorem gives_c (x : RLetr) (h0 : 0 ≤ x.sounds ∧ x.sounds ≤ 15) (n : Nat) (hn : n < 60) : PCall Tryz.prog 72 [letrA x,.int .i64 n] (.bool (givesB x n)) := by
 intro m
 obtain ⟨k,hk⟩ : ∃ k : Nat,x.sounds = (k : Int) := ⟨x.sounds.toNat,by omega⟩
 have hg : givesB x n = k.testBit n := by
  unfold givesB
  rw [hk,Int.toNat_natCast]
 rw [hg]
 simp only [letrA,hk]
 (refine acall_intro (E := env fun _ => .imm) (envOk _) rfl Tryz.func72 rfl Tryz.call72 (by kernel_rfl) (by simp [Tryz.ntmps72]) ?_; simp only [Tryz.f72];  simp(maxSteps:=9^9)only[↓VX,VQ,seval])
 repeat'(first|intro _|apply And.intro)
 all_goals try first|omega|(simp only[LL];omega)|exact nlC (by decide) _|exact nbC rfl
 all_goals first
  | (have := Nat.div_le_self k (2 ^ n); omega)
  | simp
def bookL (b : REar) (bm : Nat) : List AV := [.int .i64 b.sounds,.slice 2 (b.alphabets.map alphA),.slice 2 (b.spellings.map spelA),.map bm]
def letrsOf (b : REar) (i : Nat) : List RLetr := (b.alphabets[(b.spellings[i]!).alphabet.toNat]!).letters
def letrAt (b : REar) (i k : Nat) : RLetr := (letrsOf b i)[(idxC (letrsOf b i) (byteAt (b.spellings[i]!).text k)).toNat]!
structure EOk (b : REar) : Prop where
 k : 1 ≤ b.sounds ∧ b.sounds ≤ 4
 a : 1 ≤ b.alphabets.length ∧ b.alphabets.length ≤ 3
 l : ∀ a ∈ b.alphabets,a.letters.length ≤ 6 ∧ (∀ x ∈ a.letters,(0 ≤ x.sounds ∧ x.sounds ≤ 15) ∧ 97 ≤ x.c ∧ x.c ≤ 122) ∧ distinctL a.letters
 s : b.spellings.length ≤ 5
 t : ∀ i,i < b.spellings.length → (0 ≤ (b.spellings[i]!).alphabet ∧ (b.spellings[i]!).alphabet.toNat < b.alphabets.length) ∧ (1 ≤ (b.spellings[i]!).text.size ∧ (b.spellings[i]!).text.size ≤ 5) ∧
  ∀ k,k < (b.spellings[i]!).text.size → letrHas (letrsOf b i) (byteAt (b.spellings[i]!).text k) = true
theorem eok_check {b : REar} (h : (checkE b).2.2 = 0) : EOk b := by
 obtain ⟨p1,p2,p3,p4,p5⟩ := checkE_parts h
 refine ⟨p1,p2,fun a ha => ?_,p4,fun i hi => ?_⟩
 ·obtain ⟨n,hn,rfl⟩ := List.getElem_of_mem ha
  obtain ⟨q1,q2,q3⟩ := alph_ok p3 hn
  rw [getD_any hn] at q1 q2 q3
  obtain ⟨d1,d2⟩ := letrsE_distinct q1
  refine ⟨q3,fun x hx => ⟨?_,d2 x hx⟩,d1⟩
  obtain ⟨j,hj,rfl⟩ := List.getElem_of_mem hx
  have := failFrom_zero.1 q1 j hj
  rw [Nat.zero_add] at this
  unfold letrE at this
  split at this
  ·cases this
  ·split at this
   ·cases this
   ·split at this
    ·cases this
    ·rename_i h3
     rw [Bool.not_eq_true,offP_false] at h3
     have h4 : (2 : Nat) ^ b.sounds.toNat ≤ 2 ^ 4 := Nat.pow_le_pow_right (by decide) (by omega)
     have h5 : (2 : Nat) ^ b.sounds.toNat ≤ 16 := h4
     generalize 2 ^ b.sounds.toNat = P at *
     omega
 ·have := failFrom_zero.1 p5 i hi
  rw [← getD_any hi] at this
  unfold spelE at this
  split at this
  ·cases this
  ·rename_i h1
   split at this
   ·cases this
   ·rename_i h2
    split at this
    ·rename_i h3
     rw [Bool.not_eq_true,offP_false] at h1 h2
     refine ⟨by omega,by omega,fun k hk => ?_⟩
     exact List.all_eq_true.1 h3 k (List.mem_range.2 hk)
    ·cases this
theorem idx_has {l : List RLetr} {c : Nat} (h : letrHas l c = true) : 0 ≤ idxC l c ∧ (idxC l c).toNat < l.length ∧ letrOf l c = some l[(idxC l c).toNat]! := by
 unfold letrHas at h
 induction l with
 | nil => cases h
 | cons x l ih =>
  by_cases hx : x.c = c
  ·have e : idxC (x :: l) c = 0 := by unfold idxC idxL; rw [if_pos (decide_eq_true hx)]
   rw [e]
   refine ⟨Int.le_refl _,by simp,?_⟩
   unfold letrOf
   rw [List.find?_cons,decide_eq_true hx]
   rfl
  ·rw [List.any_cons,decide_eq_false hx,Bool.false_or] at h
   obtain ⟨h1,h2,h3⟩ := ih h
   have e : idxC (x :: l) c = idxC l c + 1 := by
    unfold idxC at h1 ⊢
    rw [idxL,if_neg (by simp [hx]),if_neg (by omega)]
   rw [e]
   refine ⟨by omega,by simp; omega,?_⟩
   unfold letrOf at h3 ⊢
   rw [List.find?_cons,decide_eq_false hx,h3]
   have : (idxC l c + 1).toNat = (idxC l c).toNat + 1 := by omega
   rw [this]
   simp
theorem can_c (b : REar) (hb : EOk b) (bm i k n : Nat) (hi : i < b.spellings.length) (hk : k < (b.spellings[i]!).text.size) (hn : n < 60) :
  PCall Tryz.prog 179 [.eptr (bookL b bm),.int .i64 i,.int .i64 k,.int .i64 n] (.bool (givesB (letrAt b i k) n)) := by
 intro m
 obtain ⟨⟨t1,t2⟩,⟨t3,t4⟩,t5⟩ := hb.t i hi
 obtain ⟨d1,d2,d3⟩ := idx_has (t5 k hk)
 have ham : b.alphabets[(b.spellings[i]!).alphabet.toNat]! ∈ b.alphabets := by rw [getD_any t2]; exact List.getElem_mem t2
 obtain ⟨g1,g2,_⟩ := hb.l _ ham
 have hx : letrAt b i k ∈ letrsOf b i := by unfold letrAt; rw [getD_any d2]; exact List.getElem_mem d2
 have hg := gives_c (letrAt b i k) (g2 _ hx).1 n hn
 have hix := index_c (letrsOf b i) (byteAt (b.spellings[i]!).text k)
 have hls : letrAt b i k = (letrsOf b i)[(idxC (letrsOf b i) (byteAt (b.spellings[i]!).text k)).toNat]! := rfl
 have hlo : letrsOf b i = b.alphabets[(b.spellings[i]!).alphabet.toNat]!.letters := rfl
 generalize letrAt b i k = x at *
 rw [hlo] at hls hix d1 d2
 generalize idxC b.alphabets[(b.spellings[i]!).alphabet.toNat]!.letters (byteAt (b.spellings[i]!).text k) = I at *
 simp only [letrsA,letrA,hls] at hix hg
 rw [← hls] at hg
 simp only [bookL]
 (refine acall_intro (E := envC (modeAt [9] []) false []) (envCOk _ _ _) rfl Tryz.func179 rfl Tryz.call179 (by kernel_rfl) (by simp [Tryz.ntmps179]) ?_; simp only [Tryz.f179];  simp(maxSteps:=9^9)only[↓VX,VQ,seval])
 repeat'(first|intro _|apply And.intro)
 all_goals try first|omega|(simp only[LL];omega)|exact nlC (by decide) _|exact nbC rfl
 (refine adraw (by first | exact envOk _ | exact envCOk _ _ _) mixed [⟨false,false,0⟩,⟨false,false,0⟩,⟨false,false,0⟩,⟨false,false,0⟩,⟨false,false,0⟩,⟨false,false,0⟩,⟨false,false,0⟩,⟨false,false,0⟩,⟨false,false,0⟩,⟨false,false,0⟩,⟨false,false,0⟩] (by kernel_rfl) ?_; show vcOpsD _ _ _ (_ :: _) _ _)
 simp(maxSteps:=9^9)only[↓VX,VQ,seval,byte_fold]
 repeat'(first|intro _|apply And.intro)
 all_goals try first|omega|(simp only[LL];omega)|exact nlC (by decide) _|exact nbC rfl
 (refine ACall.pure (hix) ?_; try simp(maxSteps:=9^9)only[↓VX,VQ,seval])
 simp(maxSteps:=9^9)only[↓VX,VQ,seval,← hls]
 repeat'(first|intro _|apply And.intro)
 all_goals try first|omega|(simp only[LL];omega)|exact nlC (by decide) _|exact nbC rfl
 (refine ACall.pure (hg) ?_; try simp(maxSteps:=9^9)only[↓VX,VQ,seval])
theorem silent_c (b : REar) (hb : EOk b) (bm i k : Nat) (hi : i < b.spellings.length) (hk : k < (b.spellings[i]!).text.size) :
  PCall Tryz.prog 181 [.eptr (bookL b bm),.int .i64 i,.int .i64 k] (.bool (letrAt b i k).silent) := by
 intro m
 obtain ⟨⟨t1,t2⟩,⟨t3,t4⟩,t5⟩ := hb.t i hi
 obtain ⟨d1,d2,d3⟩ := idx_has (t5 k hk)
 have ham : b.alphabets[(b.spellings[i]!).alphabet.toNat]! ∈ b.alphabets := by rw [getD_any t2]; exact List.getElem_mem t2
 obtain ⟨g1,g2,_⟩ := hb.l _ ham
 have hix := index_c (letrsOf b i) (byteAt (b.spellings[i]!).text k)
 have hls : letrAt b i k = (letrsOf b i)[(idxC (letrsOf b i) (byteAt (b.spellings[i]!).text k)).toNat]! := rfl
 have hlo : letrsOf b i = b.alphabets[(b.spellings[i]!).alphabet.toNat]!.letters := rfl
 generalize letrAt b i k = x at *
 rw [hlo] at hls hix d1 d2
 generalize idxC b.alphabets[(b.spellings[i]!).alphabet.toNat]!.letters (byteAt (b.spellings[i]!).text k) = I at *
 simp only [letrsA] at hix
 simp only [bookL]
 (refine acall_intro (E := envC (modeAt [7] []) false []) (envCOk _ _ _) rfl Tryz.func181 rfl Tryz.call181 (by kernel_rfl) (by simp [Tryz.ntmps181]) ?_; simp only [Tryz.f181];  simp(maxSteps:=9^9)only[↓VX,VQ,seval])
 repeat'(first|intro _|apply And.intro)
 all_goals try first|omega|(simp only[LL];omega)|exact nlC (by decide) _|exact nbC rfl
 (refine adraw (by first | exact envOk _ | exact envCOk _ _ _) mixed [⟨false,false,0⟩,⟨false,false,0⟩,⟨false,false,0⟩,⟨false,false,0⟩,⟨false,false,0⟩,⟨false,false,0⟩,⟨false,false,0⟩,⟨false,false,0⟩,⟨false,false,0⟩,⟨false,false,0⟩,⟨false,false,0⟩] (by kernel_rfl) ?_; show vcOpsD _ _ _ (_ :: _) _ _)
 simp(maxSteps:=9^9)only[↓VX,VQ,seval,byte_fold]
 repeat'(first|intro _|apply And.intro)
 all_goals try first|omega|(simp only[LL];omega)|exact nlC (by decide) _|exact nbC rfl
 (refine ACall.pure (hix) ?_; try simp(maxSteps:=9^9)only[↓VX,VQ,seval])
 simp(maxSteps:=9^9)only[↓VX,VQ,seval,← hls]
 repeat'(first|intro _|apply And.intro)
 all_goals try first|omega|(simp only[LL];omega)|exact nlC (by decide) _|exact nbC rfl
structure KeepS (S : Nat → Prop) (m m' : Mem) : Prop where
 get : ∀ b x,¬ S b → m b = some x → m' b = some x
theorem KeepS.refl (S : Nat → Prop) (m : Mem) : KeepS S m m := ⟨fun _ _ _ h => h⟩
theorem KeepS.trans {S : Nat → Prop} {m m' m'' : Mem} (h : KeepS S m m') (k : KeepS S m' m'') : KeepS S m m'' := ⟨fun b x hb hx => k.get b x hb (h.get b x hb hx)⟩
structure YS (l : Nat) (S : Nat → Prop) (J : List (List Nat) → Mem → Prop) : Prop where
 y : ∀ pre h m,h.length ≤ 5 → J pre m → AYield Tryz.prog l [heardA h] m fun r m' => KeepS S m m' ∧ r = .bool true ∧ J (pre ++ [h]) m'
 st : ∀ pre m m',J pre m → (∀ k,S k → m' k = m k) → J pre m'
def canA (b : REar) (bm : Nat) : AV := .fn (.func 179) [.eptr (bookL b bm)] []
def enextA (b : REar) (bm i bx l : Nat) : AV := .fn (.func 180) [] [.eptr [.eptr (bookL b bm)],.eptr [.int .i64 i],.eptr [.fn (.yield l) [] []],.ptr bx 0,.eptr [canA b bm]]
theorem bytes_drop {s : ByteArray} {k : Nat} (h : k < s.size) : (bytesOf s).drop k = byteAt s k :: (bytesOf s).drop (k + 1) := by
 have hl : (bytesOf s).length = s.size := by simp [bytesOf]
 rw [List.drop_eq_getElem_cons (by omega)]
 simp [bytesOf]
theorem bytes_end {s : ByteArray} {k : Nat} (h : s.size ≤ k) : (bytesOf s).drop k = [] := List.drop_eq_nil_of_le (by simpa [bytesOf] using h)
def fromL (b : REar) (i k : Nat) (h : List Nat) : List (List Nat) := (stringsL (letrsOf b i) b.sounds.toNat ((bytesOf (b.spellings[i]!).text).drop k)).map (h ++ ·)
def sndsL (b : REar) (i k : Nat) (h : List Nat) (n : Nat) : List (List Nat) := (List.range n).flatMap fun j => if givesB (letrAt b i k) j = true then fromL b i (k + 1) (h ++ [j]) else []
theorem from_end {b : REar} {i k : Nat} {h : List Nat} (hk : (b.spellings[i]!).text.size ≤ k) : fromL b i k h = [h] := by
 unfold fromL
 rw [bytes_end hk]
 simp [stringsL]
theorem from_step {b : REar} (hb : EOk b) {i k : Nat} {h : List Nat} (hi : i < b.spellings.length) (hk : k < (b.spellings[i]!).text.size) :
  fromL b i k h = (if (letrAt b i k).silent = true then fromL b i (k + 1) h else []) ++ sndsL b i k h b.sounds.toNat := by
 obtain ⟨_,_,d3⟩ := idx_has ((hb.t i hi).2.2 k hk)
 have hx : letrOf (letrsOf b i) (byteAt (b.spellings[i]!).text k) = some (letrAt b i k) := d3
 unfold sndsL fromL
 rw [bytes_drop hk,stringsL,hx]
 dsimp only
 rw [List.map_append]
 congr 1
 ·split <;> simp
 ·rw [List.map_flatMap]
  congr 1
  funext j
  by_cases q : givesB (letrAt b i k) j = true
  ·rw [if_pos q,if_pos q,List.map_map]
   congr 1
   funext t
   simp
  ·rw [if_neg q,if_neg q]; rfl
theorem snds_succ (b : REar) (i k : Nat) (h : List Nat) (n : Nat) : sndsL b i k h (n + 1) = sndsL b i k h n ++ if givesB (letrAt b i k) n = true then fromL b i (k + 1) (h ++ [n]) else [] := by
 unfold sndsL
 rw [List.range_succ,List.flatMap_append]
 simp
theorem heard_set (h : List Nat) (hl : h.length < 5) (n : Nat) :
  List.take (1 + h.length) [.int .i64 h.length,.int .i64 (snd h 0),.int .i64 (snd h 1),.int .i64 (snd h 2),.int .i64 (snd h 3),.int .i64 (snd h 4)] ++ [.int .i64 n] ++ List.drop (1 + h.length) [.int .i64 (snd h 0),.int .i64 (snd h 1),.int .i64 (snd h 2),.int .i64 (snd h 3),.int .i64 (snd h 4)] =
   [AV.int .i64 h.length,.int .i64 (snd (h ++ [n]) 0),.int .i64 (snd (h ++ [n]) 1),.int .i64 (snd (h ++ [n]) 2),.int .i64 (snd (h ++ [n]) 3),.int .i64 (snd (h ++ [n]) 4)] := by
 have e : ∀ i,snd (h ++ [n]) i = if i < h.length then snd h i else if i = h.length then (n : Int) else snd h i := fun i => by
  unfold snd
  simp only [List.getD_eq_getElem?_getD]
  by_cases q : i < h.length
  ·rw [if_pos q,List.getElem?_append_left q]
  ·rw [if_neg q,List.getElem?_append_right (by omega)]
   by_cases q2 : i = h.length
   ·rw [if_pos q2,q2]; simp
   ·rw [if_neg q2,List.getElem?_eq_none (by simp; omega),List.getElem?_eq_none (by omega)]
 simp only [e]
 match h,hl with
 | [],_ => rfl
 | [_],_ => rfl
 | [_,_],_ => rfl
 | [_,_,_],_ => rfl
 | [_,_,_,_],_ => rfl
theorem enext_c (b : REar) (hb : EOk b) (bm i bx l : Nat) (hi : i < b.spellings.length) {S : Nat → Prop} {J : List (List Nat) → Mem → Prop} (hy : YS l S J) (hS : ¬ S bx) :
  ∀ (n k : Nat),k + n = (b.spellings[i]!).text.size → ∀ (h : List Nat),h.length ≤ k → ∀ (pre : List (List Nat)) (m : Mem),m bx = some (.cells [enextA b bm i bx l]) → J pre m →
  ACall Tryz.prog 180 [.int .i64 k,heardA h,.eptr [.eptr (bookL b bm)],.eptr [.int .i64 i],.eptr [.fn (.yield l) [] []],.ptr bx 0,.eptr [canA b bm]] m
   fun r m' => KeepS S m m' ∧ r = .bool true ∧ J (pre ++ fromL b i k h) m'
 | 0,k,hk,h,hh,pre,m,hm,hJ => by
  have hks : k = (b.spellings[i]!).text.size := by omega
  have h5 := (hb.t i hi).2.1.2
  have hyy := hy.y pre h m (by omega) hJ
  have e1 : ((k : Int) = ((b.spellings[i]!).text.size : Int)) = True := eq_true (by omega)
  rw [from_end (by omega)]
  simp only [heardA,heardL,bookL,canA] at hyy ⊢
  (refine acall_intro (E := envC (modeAt [11] []) false []) (envCOk _ _ _) rfl Tryz.func180 rfl Tryz.call180 (by kernel_rfl) (by simp [Tryz.ntmps180]) ?_; simp only [Tryz.f180];  simp(maxSteps:=9^9)only[↓VX,VQ,seval])
  (refine adraw (by first | exact envOk _ | exact envCOk _ _ _) mixed [⟨false,false,0⟩,⟨false,false,0⟩,⟨false,false,0⟩,⟨false,false,0⟩,⟨false,false,0⟩,⟨false,false,0⟩,⟨false,false,0⟩,⟨false,false,0⟩,⟨false,false,0⟩,⟨false,false,0⟩,⟨false,false,0⟩,⟨false,false,0⟩] (by kernel_rfl) ?_; show vcOpsD _ _ _ (_ :: _) _ _)
  simp(maxSteps:=9^9)only[↓VX,VQ,seval,e1]
  repeat'(first|intro _|apply And.intro)
  all_goals try first|omega|(simp only[LL];omega)|exact nlC (by decide) _|exact nbC rfl
  refine AYield.mono hyy fun r m' hr => ?_
  obtain ⟨g1,rfl,g3⟩ := hr
  simp(maxSteps:=9^9)only[↓VX,VQ,seval]
  exact ⟨g1,g3⟩
 | n + 1,k,hk,h,hh,pre,m,hm,hJ => by
  have ih := enext_c b hb bm i bx l hi hy hS n (k + 1) (by omega)
  have hkt : k < (b.spellings[i]!).text.size := by omega
  have h5 := (hb.t i hi).2.1.2
  have hsi := silent_c b hb bm i k hi hkt
  have hca := fun (n : Nat) hn => can_c b hb bm i k n hi hkt hn
  have e1 : ((k : Int) = ((b.spellings[i]!).text.size : Int)) = False := eq_false (by omega)
  rw [from_step hb hi hkt]
  have hk60 := hb.k
  obtain ⟨sl,hsl⟩ : ∃ sl,sl = (letrAt b i k).silent := ⟨_,rfl⟩
  rw [← hsl] at hsi ⊢
  obtain ⟨P0,hP0⟩ : ∃ P0,P0 = (if sl = true then fromL b i (k + 1) h else []) := ⟨_,rfl⟩
  rw [← hP0,← List.append_assoc]
  have hkeep : ∀ {m1 : Mem},KeepS S m m1 → m1 bx = some (.cells [enextA b bm i bx l]) := fun h => h.get bx _ hS hm
  simp only [heardA,heardL,bookL,canA,enextA,Int.natCast_add,Int.natCast_one] at ih hsi hca hm hkeep ⊢
  (refine acall_intro (E := envC (modeAt [11] []) false []) (envCOk _ _ _) rfl Tryz.func180 rfl Tryz.call180 (by kernel_rfl) (by simp [Tryz.ntmps180]) ?_; simp only [Tryz.f180];  simp(maxSteps:=9^9)only[↓VX,VQ,seval,e1])
  (refine adraw (by first | exact envOk _ | exact envCOk _ _ _) mixed [⟨false,false,0⟩,⟨false,false,0⟩,⟨false,false,0⟩,⟨false,false,0⟩,⟨false,false,0⟩,⟨false,false,0⟩,⟨false,false,0⟩,⟨false,false,0⟩,⟨false,false,0⟩,⟨false,false,0⟩,⟨false,false,0⟩,⟨false,false,0⟩] (by kernel_rfl) ?_; show vcOpsD _ _ _ (_ :: _) _ _)
  simp(maxSteps:=9^9)only[↓VX,VQ,seval,e1]
  repeat'(first|intro _|apply And.intro)
  all_goals try first|omega|(simp only[LL];omega)|exact nlC (by decide) _|exact nbC rfl
  (refine ACall.pure (hsi) ?_; try simp(maxSteps:=9^9)only[↓VX,VQ,seval])
  cases sl
  case' true =>
   simp(maxSteps:=9^9)only[↓VX,VQ,seval,hm]
   repeat'(first|intro _|apply And.intro)
   all_goals try first|omega|(simp only[LL];omega)|exact nlC (by decide) _|exact nbC rfl
   refine ACall.told (ih h (by omega) pre m hm hJ) ?_
   rintro r m0 ⟨k1,rfl,k3⟩
   rw [if_pos rfl] at hP0
   rw [← hP0] at k3
   simp(maxSteps:=9^9)only[↓VX,VQ,seval]
  case' false =>
   have k1 := KeepS.refl S m
   have k3 : J (pre ++ P0) m := by rw [hP0,if_neg (by decide),List.append_nil]; exact hJ
   simp(maxSteps:=9^9)only[↓VX,VQ,seval]
  all_goals
   generalize pre ++ P0 = pre0 at *
   clear hP0
   first
    | refine aloop (envCOk _ _ _) (fun q : Nat × Mem => ⟨[(0,.v (.int .i64 k)),(2,.v (.eptr [.eptr (bookL b bm)])),(3,.v (.eptr [.int .i64 i])),(4,.v (.eptr [.fn (.yield l) [] []])),(5,.v (.ptr bx 0)),(6,.v (.eptr [canA b bm])),(8,.v (.eptr (heardL h))),(43,.v (.int .i64 b.sounds)),(44,.v (.int .i64 q.1))],[],[],q.2⟩) (fun q => q.1 ≤ b.sounds.toNat ∧ KeepS S m q.2 ∧ J (pre0 ++ sndsL b i k h q.1) q.2) (fun q => b.sounds.toNat - q.1) (0,m0) (fun _ => rfl) ⟨Nat.zero_le _,k1,by simpa [sndsL] using k3⟩ (by (simp only [FE,↓FP,seval]); repeat' (first | rfl | apply And.intro)) ?_
    | refine aloop (envCOk _ _ _) (fun q : Nat × Mem => ⟨[(0,.v (.int .i64 k)),(2,.v (.eptr [.eptr (bookL b bm)])),(3,.v (.eptr [.int .i64 i])),(4,.v (.eptr [.fn (.yield l) [] []])),(5,.v (.ptr bx 0)),(6,.v (.eptr [canA b bm])),(8,.v (.eptr (heardL h))),(43,.v (.int .i64 b.sounds)),(44,.v (.int .i64 q.1))],[],[],q.2⟩) (fun q => q.1 ≤ b.sounds.toNat ∧ KeepS S m q.2 ∧ J (pre0 ++ sndsL b i k h q.1) q.2) (fun q => b.sounds.toNat - q.1) (0,m) (fun _ => rfl) ⟨Nat.zero_le _,k1,by simpa [sndsL] using k3⟩ (by (simp only [FE,↓FP,seval]); repeat' (first | rfl | apply And.intro)) ?_
   rintro ⟨q,mq⟩ ⟨hq,kq,jq⟩
   dsimp only at hq kq jq
   have hmx := hkeep kq
   by_cases hqk : q < b.sounds.toNat
   ·have z1 : ((q : Int) < b.sounds) = True := eq_true (by omega)
    have hss := snds_succ b i k h q
    have hca := hca q (by omega)
    have hset := heard_set h (by omega) q
    have ihq := ih (h ++ [q]) (by rw [List.length_append,List.length_singleton]; omega) (pre0 ++ sndsL b i k h q) mq hmx jq
    obtain ⟨gv,hgv⟩ : ∃ gv,gv = givesB (letrAt b i k) q := ⟨_,rfl⟩
    rw [← hgv] at hca hss
    simp only [bookL,canA,heardL]
    cases gv
    ·rw [if_neg (by decide),List.append_nil] at hss
     simp(maxSteps:=9^9)only[↓VX,VQ,seval,z1]
     repeat'(first|intro _|apply And.intro)
     all_goals try first|omega|(simp only[LL];omega)|exact nlC (by decide) _|exact nbC rfl
     (refine ACall.pure (hca) ?_; try simp(maxSteps:=9^9)only[↓VX,VQ,seval])
     repeat'(first|intro _|apply And.intro)
     all_goals try first|omega|(simp only[LL];omega)|exact nlC (by decide) _|exact nbC rfl
     refine ⟨(q + 1,mq),⟨by dsimp only; omega,kq,by dsimp only; rw [hss]; exact jq⟩,by dsimp only; omega,?_⟩
     (simp only [FE,↓FP,seval])
     try simp [bookL,canA,heardL]
    ·rw [if_pos rfl] at hss
     simp(maxSteps:=9^9)only[↓VX,VQ,seval,z1]
     repeat'(first|intro _|apply And.intro)
     all_goals try first|omega|(simp only[LL];omega)|exact nlC (by decide) _|exact nbC rfl
     have hlen : (((h ++ [q]).length : Nat) : Int) = (h.length : Int) + 1 := by simp
     rw [hlen] at ihq
     (refine ACall.pure (hca) ?_; try simp(maxSteps:=9^9)only[↓VX,VQ,seval])
     simp(maxSteps:=9^9)only[↓VX,VQ,seval,hset,hmx]
     repeat'(first|intro _|apply And.intro)
     all_goals try first|omega|(simp only[LL];omega)|exact nlC (by decide) _|exact nbC rfl
     refine ACall.told ihq ?_
     rintro r m2 ⟨g1,rfl,g3⟩
     simp(maxSteps:=9^9)only[↓VX,VQ,seval]
     repeat'(first|intro _|apply And.intro)
     all_goals try first|omega|(simp only[LL];omega)|exact nlC (by decide) _|exact nbC rfl
     refine ⟨(q + 1,m2),⟨by dsimp only; omega,kq.trans g1,by dsimp only; rw [hss,← List.append_assoc]; exact g3⟩,by dsimp only; omega,?_⟩
     (simp only [FE,↓FP,seval])
     try simp [bookL,canA,heardL]
   ·have z1 : ((q : Int) < b.sounds) = False := eq_false (by omega)
    obtain rfl : q = b.sounds.toNat := by omega
    simp only [bookL,canA,heardL]
    simp(maxSteps:=9^9)only[↓VX,VQ,seval,z1]
    exact ⟨kq,jq⟩
theorem estrings_c (b : REar) (bm i : Nat) : PCall Tryz.prog 164 [.eptr (bookL b bm),.int .i64 i] (.fn (.func 178) [] [.eptr [.eptr (bookL b bm)],.eptr [.int .i64 i]]) := by
 intro m
 simp only [bookL]
 (refine acall_intro (E := env fun _ => .imm) (envOk _) rfl Tryz.func164 rfl Tryz.call164 (by kernel_rfl) (by simp [Tryz.ntmps164]) ?_; simp only [Tryz.f164];  simp(maxSteps:=9^9)only[↓VX,VQ,seval])
theorem from_all (b : REar) (i : Nat) : fromL b i 0 [] = strsOf b i := by
 unfold fromL strsOf
 rw [List.drop_zero]
 simp [letrsOf]
theorem strings1_c (b : REar) (hb : EOk b) (bm i l : Nat) (hi : i < b.spellings.length) {S : Nat → Prop} {J : List (List Nat) → Mem → Prop} (hy : YS l S J) (m : Mem) (hS : ∀ k,S k → m k ≠ none) (hJ : J [] m) :
  ACall Tryz.prog 178 [.fn (.yield l) [] [],.eptr [.eptr (bookL b bm)],.eptr [.int .i64 i]] m fun _ m' => KeepS S m m' ∧ J (strsOf b i) m' := by
 have hnx := fun bx hbx => enext_c b hb bm i bx l hi hy hbx (b.spellings[i]!).text.size 0 (Nat.zero_add _) [] (Nat.le_refl _) []
 rw [from_all] at hnx
 have hst := hy.st
 have h0 : heardL [] = [.int .i64 0,.int .i64 0,.int .i64 0,.int .i64 0,.int .i64 0,.int .i64 0] := rfl
 simp only [heardA,h0,bookL,canA,enextA,List.nil_append,Int.natCast_zero] at hnx ⊢
 (refine acall_intro (E := envC (modeAt [4] [5]) false []) (envCOk _ _ _) rfl Tryz.func178 rfl Tryz.call178 (by kernel_rfl) (by simp [Tryz.ntmps178]) ?_; simp only [Tryz.f178];  simp(maxSteps:=9^9)only[↓VX,VQ,seval])
 intro bx hbx
 have hns : ∀ k,S k → k ≠ bx := fun k hk e => hS k hk (by rw [e]; exact hbx)
 refine ACall.told (hnx bx (fun hs => hS _ hs hbx) _ (upd_same _ _ _) (hst [] m _ hJ fun k hk => ?_)) ?_
 ·simp only [upd_ne _ _ (hns k hk)]
 rintro r m' ⟨g1,rfl,g3⟩
 simp(maxSteps:=9^9)only[↓VX,VQ,seval]
 refine ⟨⟨fun k x hk hx => g1.get k x hk ?_⟩,g3⟩
 have : k ≠ bx := fun e => by rw [e,hbx] at hx; cases hx
 simp only [upd_ne _ _ this]; exact hx
end Go.Proofs.YtdmejgfcaacdoaaGreat.Abs
