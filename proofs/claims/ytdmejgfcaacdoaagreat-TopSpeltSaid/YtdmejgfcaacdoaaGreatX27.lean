/- Lemmas for the statements of this seat (X27): they hold without conditions beyond those that each one states. -/
import Derived.Test.YtdmejgfcaacdoaaGreatX26
import Derived.Test.YtdmejgfcaacdoaaGreatX13
import Derived.Test.YtdmejgfcaacdoaaGreatX6
/- Contracts: Equal of marks; the words that a form gives. -/
namespace Go.Proofs.YtdmejgfcaacdoaaGreat.Abs
set_option linter.unusedSimpArgs false
set_option maxHeartbeats 4000000
set_option maxRecDepth 100000
open Go Go.RowKit Go.Proofs
theorem part9 {cs : Array Value} {off : Nat} {v : Value} (h : cs[off]? = some v) (w : World) : (part 9 cs off).run Tryz.prog w = .ok v w := by
 unfold part
 rw [Sem.run_bind,tyok_9.agg w]
 simp [TyI.agg,h]
theorem eqStr9 (d : Nat) (a b : ByteArray) (w : World) : (Op.equalIn (d + 1) 9 (.string a) (.string b)).run Tryz.prog w = .ok (decide (a = b)) w := by
 rw [run_equalIn_string w d 9 a b (by kernel_rfl)]
 congr 1
 rw [Bool.eq_iff_iff,beq_iff_eq,decide_eq_true_iff]
 exact ⟨toList_inj,fun h => by rw [h]⟩
theorem eqStepS {d : Nat} {xs ys : Array Value} {f : Field} {fs : List Field} {a b : ByteArray} {R : Bool} {w : World} (hn : f.name ≠ "_") (ht : f.type = 9) (hx : xs[f.offset]? = some (.string a)) (hy : ys[f.offset]? = some (.string b))
  (hr : (Op.eqFields (d + 1) xs ys fs).run Tryz.prog w = .ok R w) : (Op.eqFields (d + 1) xs ys (f :: fs)).run Tryz.prog w = .ok (decide (a = b) && R) w := by
 unfold Op.eqFields
 rw [if_pos hn,ht,Sem.run_bind,part9 hx,Result.andThen_ok,Sem.run_bind,part9 hy,Result.andThen_ok,Sem.run_bind,eqStr9,Result.andThen_ok]
 by_cases h : a = b
 ·simp [h,hr]
 ·simp [h]
theorem eqFlatMark (a : Int) (b : ByteArray) (a' : Int) (b' : ByteArray) : EqFlat Tryz.prog 137 [.int .i64 a,.str b] [.int .i64 a',.str b'] (decide (a = a') && (decide (b = b') && true)) := by
 intro vs vs' com w x y h h'
 obtain ⟨v1,vs,rfl,r1,h⟩ := Reps.cons_inv h
 obtain ⟨v2,vs,rfl,r2,h⟩ := Reps.cons_inv h
 obtain rfl := Reps.nil_inv h
 obtain ⟨u1,us,rfl,s1,h'⟩ := Reps.cons_inv h'
 obtain ⟨u2,us,rfl,s2,h'⟩ := Reps.cons_inv h'
 obtain rfl := Reps.nil_inv h'
 obtain rfl := rep_int r1; obtain rfl := rep_str r2
 obtain rfl := rep_int s1; obtain rfl := rep_str s2
 have hg : Tryz.prog.eqGuardType Tryz.prog.depth 137 = false := by kernel_rfl
 have hu : Tryz.prog.underlying 137 = some (.struct (Tryz.prog.fieldsOf 137)) := by kernel_rfl
 have hs : Tryz.prog.stoodInHeld 137 = false := by kernel_rfl
 have key : (Op.equalIn 10000 137 (.agg #[.int .i64 a,.string b]) (.agg #[.int .i64 a',.string b'])).run Tryz.prog w = .ok (decide (a = a') && (decide (b = b') && true)) w := by
  rw [run_equalIn_agg w 9999 137 _ _ hu hs]
  simp only [Program.fieldsOf,Tryz.underlying137]
  exact eqStep (by decide) rfl rfl rfl (eqStepS (by decide) rfl rfl rfl (by simp [Op.eqFields]))
 constructor
 ·rw [Sem.run_bind,run_eqGuard_agg w .eql 137 x y _ _ hg,Result.andThen_ok,run_eql_struct,key]; rfl
 ·rw [Sem.run_bind,run_eqGuard_agg w .neq 137 x y _ _ hg,Result.andThen_ok,run_neq_struct,key]; rfl
theorem equalM_c (a : List (Int × ByteArray)) : PCall Tryz.prog 39 [marksA a,marksA a] (.bool true) := by
 intro m
 simp only [marksA]
 (refine acall_intro (E := env fun _ => .imm) (envOk _) rfl Tryz.func39 rfl Tryz.call39 (by kernel_rfl) (by simp [Tryz.ntmps39]) ?_; simp only [Tryz.f39];  simp(maxSteps:=9^9)only[↓VX,VQ,seval])
 repeat'(first|intro _|apply And.intro)
 all_goals try first|omega|(simp only[LL];omega)|exact nlC (by decide) _|exact nbC rfl
 refine aloop (envOk _) (fun k : Nat => ⟨[(0,.v (.slice 2 (a.map markA))),(1,.v (.slice 2 (a.map markA))),(5,.v (.int .i64 k))],[],[],m⟩) (fun k => k ≤ a.length) (fun k => a.length - k) 0 (fun _ => rfl) (Nat.zero_le _) (by (simp only [FE,↓FP,seval]); try simp) ?_
 intro k hk
 by_cases hlt : k < a.length
 ·have hk' : ((k : Int) < (a.length : Int)) = True := by simp; omega
  have hef := eqFlatMark a[k]!.1 a[k]!.2 a[k]!.1 a[k]!.2
  simp only [decide_true,Bool.and_true,eq_self] at hef
  simp(maxSteps:=9^9)only[↓VX,VQ,seval,hk']
  repeat'(first|intro _|apply And.intro)
  all_goals try first|omega|(simp only[LL];omega)|exact nlC (by decide) _|exact nbC rfl
  (refine adraw (by first | exact envOk _ | exact envCOk _ _ _) mixed [⟨false,false,0⟩,⟨false,false,0⟩,⟨false,false,0⟩,⟨false,false,0⟩,⟨false,false,0⟩,⟨false,false,0⟩,⟨false,false,0⟩,⟨false,false,0⟩,⟨false,false,0⟩] (by kernel_rfl) ?_; show vcOpsD _ _ _ (_ :: _) _ _)
  simp(maxSteps:=9^9)only[↓VX,VQ,seval,markA,AV.cells]
  refine ⟨by omega,by omega,hef,fun h => absurd h (by decide),fun _ => ⟨by omega,?_⟩⟩
  refine ⟨k + 1,by omega,by dsimp only; omega,?_⟩
  (simp only [FE,↓FP,seval])
  simp
 ·simp(maxSteps:=9^9)only[↓VX,VQ,seval]
  repeat'(first|intro _|apply And.intro)
  all_goals try first|omega|(simp only[LL];omega)|exact nlC (by decide) _|exact nbC rfl
  trivial
end Go.Proofs.YtdmejgfcaacdoaaGreat.Abs
