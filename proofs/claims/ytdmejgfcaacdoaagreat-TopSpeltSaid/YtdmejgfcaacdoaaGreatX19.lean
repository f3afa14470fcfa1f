/- Lemmas for the statements of this seat (X19): they hold without conditions beyond those that each one states. -/
import Derived.Test.YtdmejgfcaacdoaaGreatX18
import Derived.Test.YtdmejgfcaacdoaaGreatX9
/- Contracts: Check of shelves: its parts. -/
namespace Go.Proofs.YtdmejgfcaacdoaaGreat.Abs
set_option linter.unusedSimpArgs false
set_option maxHeartbeats 4000000
set_option maxRecDepth 100000
open Go Go.RowKit Go.Proofs
def slF (l : List RForm) : AV := .slice 2 (l.map formA)
theorem formA_eq (x : RForm) : formA x = .agg [.str x.name,.slice 3 (x.parts.map partA)] := rfl
theorem indexF_c (g : FuncId) (caps : List AV) (l : List RForm) (p : RForm → Bool) (h : ∀ x ∈ l,PCall Tryz.prog g ([formA x] ++ caps) (.bool (p x))) :
  PCall Tryz.prog 149 [slF l,.fn (.func g) [] caps] (.int .i64 (idxL p l)) := by
 intro m
 simp only [slF]
 (refine acall_len Tryz.call149 fun hlen => ?_; refine acall_intro (E := env fun _ => .imm) (envOk _) rfl Tryz.func149 rfl Tryz.call149 (by kernel_rfl) (by simp [Tryz.ntmps149]) ?_; simp only [Tryz.f149];  simp(maxSteps:=9^9)only[↓VX,VQ,seval])
 simp only [lenOk_cons,lenOk_nil,List.length_map,and_true,maxLen_eq] at hlen
 intro _
 refine aloop (envOk _) (fun k : Nat => ⟨[(0,.v (.slice 2 (l.map formA))),(1,.v (.fn (.func g) [] caps)),(7,.v (.int .i64 l.length)),(8,.v (.int .i64 k))],[],[],m⟩) (fun k => k ≤ l.length ∧ ∀ x ∈ l.take k,p x = false) (fun k => l.length - k) 0 (fun _ => rfl) (by simp) (by (simp only [FE,↓FP,seval]); try simp) ?_
 rintro k ⟨hk,hp⟩
 simp(maxSteps:=9^9)only[↓VX,VQ,seval]
 repeat'(first|intro _|apply And.intro)
 all_goals try first|omega|(simp only[LL];omega)|exact nlC (by decide) _|exact nbC rfl
 ·have hlt : k < l.length := by omega
  have e1 : l[k]! = l[k] := getD_any hlt
  have hc := h _ (List.getElem_mem hlt)
  rw [← e1] at hc
  refine ACall.pure hc ?_
  simp(maxSteps:=9^9)only[↓VX,VQ,seval]
  repeat'(first|intro _|apply And.intro)
  all_goals try first|omega|(simp only[LL];omega)|exact nlC (by decide) _|exact nbC rfl
  ·rename_i hpx
   rw [idxL_at hlt hp (by rw [← e1]; exact hpx)]
  ·have hpx : ¬ p l[k]! = true := by assumption
   refine ⟨k + 1,⟨by omega,forall_take_succ hlt hp (by rw [← e1]; simpa using hpx)⟩,by dsimp only; omega,?_⟩
   (simp only [FE,↓FP,seval])
   simp
 ·have : l.take k = l := List.take_of_length_le (by omega)
  rw [this] at hp
  rw [idxL_neg hp]
theorem containsF_c (g : FuncId) (caps : List AV) (l : List RForm) (p : RForm → Bool) (h : ∀ x ∈ l,PCall Tryz.prog g ([formA x] ++ caps) (.bool (p x))) :
  PCall Tryz.prog 106 [slF l,.fn (.func g) [] caps] (.bool (l.any p)) := by
 intro m
 have hi := indexF_c g caps l p h
 simp only [slF] at hi ⊢
 (refine acall_intro (E := env fun _ => .imm) (envOk _) rfl Tryz.func106 rfl Tryz.call106 (by kernel_rfl) (by simp [Tryz.ntmps106]) ?_; simp only [Tryz.f106];  simp(maxSteps:=9^9)only[↓VX,VQ,seval])
 (refine ACall.pure (hi) ?_; try simp(maxSteps:=9^9)only[↓VX,VQ,seval])
 repeat'(first|intro _|apply And.intro)
 rw [idxL_any]
theorem check1F_c (x f : RForm) : PCall Tryz.prog 107 [formA x,.eptr (formL f)] (.bool (decide (x.name = f.name))) := by
 intro m
 simp only [formA,formL]
 (refine acall_intro (E := env fun _ => .imm) (envOk _) rfl Tryz.func107 rfl Tryz.call107 (by kernel_rfl) (by simp [Tryz.ntmps107]) ?_; simp only [Tryz.f107];  simp(maxSteps:=9^9)only[↓VX,VQ,seval])
 repeat'(first|intro _|apply And.intro)
def formFit (f : RForm) : Prop := f.name.size ≤ 9223372036854775807 ∧ ∀ p ∈ f.parts,sizesFit p.words
def shelfFit (s : RShelf) : Prop := ∀ f ∈ s.forms,formFit f
theorem failFrom_at {α : Type} [Inhabited α] {f : Nat → α → Int} : ∀ {l : List α} {n k : Nat},k < l.length → (∀ i,i < k → f (n + i) l[i]! = 0) → f (n + k) l[k]! ≠ 0 → failFrom f n l = (((n + k : Nat) : Int),f (n + k) l[k]!)
 | [],_,_,h,_,_ => by cases h
 | x :: l,n,0,_,_,hne => by
  rw [Nat.add_zero] at hne ⊢
  exact failFrom_hit hne
 | x :: l,n,k + 1,h,hp,hne => by
  have h0 : f n x = 0 := hp 0 (by omega)
  rw [failFrom_skip (by simp [h0]),failFrom_at (n := n + 1) (k := k) (by simpa using h) (fun i hi => by have := hp (i + 1) (by omega); rw [show n + 1 + i = n + (i + 1) by omega]; simpa using this) (by rw [show n + 1 + k = n + (k + 1) by omega]; simpa using hne)]
  rw [show n + 1 + k = n + (k + 1) by omega]
  simp
theorem partsE_at : ∀ {l : List RPart} {j : Nat},j < l.length → (∀ i,i < j → partE l[i]! = 0) → partE l[j]! ≠ 0 → partsE l = partE l[j]!
 | [],_,h,_,_ => by cases h
 | x :: l,0,_,_,hne => by
  have h1 : partE x ≠ 0 := hne
  rw [partsE,if_pos h1]; rfl
 | x :: l,j + 1,h,hp,hne => by
  have h0 : partE x = 0 := hp 0 (by omega)
  rw [partsE,if_neg (by simp [h0]),partsE_at (j := j) (by simpa using h) (fun i hi => by simpa using hp (i + 1) (by omega)) (by simpa using hne)]
  simp
theorem letcheck_c (s : RShelf) (hs : shelfFit s) : PCall Tryz.prog 51 [shelfA s] (.tuple [.int .i64 (checkS s).1,.int .i64 (checkS s).2.1,.int .i64 (checkS s).2.2]) := by
 intro m
 obtain ⟨E,hE⟩ : ∃ E,E = checkS s := ⟨_,rfl⟩
 rw [← hE]
 unfold checkS at hE
 have hoff := letoff_c 8 30 [s.width]
 simp only [ints,List.map_cons,List.map_nil,List.any_cons,List.any_nil,Bool.or_false] at hoff
 simp only [shelfA,shelfL]
 (refine acall_intro (E := envC (modeAt [6,8] []) false []) (envCOk _ _ _) rfl Tryz.func51 rfl Tryz.call51 (by kernel_rfl) (by simp [Tryz.ntmps51]) ?_; simp only [Tryz.f51];  simp(maxSteps:=9^9)only[↓VX,VQ,seval])
 (refine ACall.pure (hoff) ?_; try simp(maxSteps:=9^9)only[↓VX,VQ,seval])
 repeat'(first|intro _|apply And.intro)
 all_goals try first|omega|(simp only[LL];omega)|exact nlC (by decide) _|exact nbC rfl
 ·rw [hE,if_pos (by assumption)]
 ·rw [hE,if_neg (by simp_all),if_pos (by omega)]
 ·rw [if_neg (by simp_all),if_neg (by omega)] at hE
  refine aloop (envCOk _ _ _) (fun k : Nat => ⟨[(1,.v (.eptr [.int .i64 s.width,.slice 2 (s.forms.map formA)])),(4,.v (.int .i64 0)),(20,.v (.slice 2 (s.forms.map formA))),(21,.v (.int .i64 s.forms.length)),(22,.v (.int .i64 k))],[],[],m⟩)
   (fun k => k ≤ s.forms.length ∧ ∀ i < k,formE s.forms i s.forms[i]! = 0) (fun k => s.forms.length - k) 0 (fun _ => rfl) (by simp) (by (simp only [FE,↓FP,seval]); try simp) ?_
  rintro k ⟨hk,hp⟩
  simp(maxSteps:=9^9)only[↓VX,VQ,seval]
  repeat'(first|intro _|apply And.intro)
  all_goals try first|omega|(simp only[LL];omega)|exact nlC (by decide) _|exact nbC rfl
  ·have hlt : k < s.forms.length := by omega
   have hfm : formFit s.forms[k]! := by rw [getD_any hlt]; exact hs _ (List.getElem_mem hlt)
   have hname := name_c s.forms[k]!.name hfm.1
   have hc := containsF_c 107 [.eptr (formL s.forms[k]!)] (s.forms.take k) (fun y => decide (y.name = s.forms[k]!.name)) (fun x _ => check1F_c x s.forms[k]!)
   simp only [slF,List.map_take,formL] at hc
   have hat : ∀ e,formE s.forms k s.forms[k]! = e → e ≠ 0 → E = (2,(k : Int),e) := by
    intro e he hne
    have := failFrom_at (f := formE s.forms) (n := 0) hlt (by simpa only [Nat.zero_add] using hp) (by rw [Nat.zero_add,he]; exact hne)
    rw [Nat.zero_add,he] at this
    rw [hE]; unfold formsE; rw [this]; dsimp only; rw [if_pos hne]
   (refine ACall.pure (hname) ?_; try simp(maxSteps:=9^9)only[↓VX,VQ,seval])
   repeat'(first|intro _|apply And.intro)
   all_goals try first|omega|(simp only[LL];omega)|exact nlC (by decide) _|exact nbC rfl
   all_goals try ((refine ACall.pure (hc) ?_; try simp(maxSteps:=9^9)only[↓VX,VQ,seval]))
   all_goals try repeat'(first|intro _|apply And.intro)
   all_goals try first|omega|(simp only[LL];omega)|exact nlC (by decide) _|exact nbC rfl
   ·rw [hat 6 (by unfold formE; rw [if_neg (by simp_all)]) (by decide)]
   ·rw [hat 5 (by unfold formE; rw [if_pos (by simp_all),if_pos (by simp_all)]) (by decide)]
   ·rw [hat 3 (by unfold formE; rw [if_pos (by simp_all),if_neg (by simp_all),if_pos (by omega)]) (by decide)]
   ·have hfe : formE s.forms k s.forms[k]! = partsE s.forms[k]!.parts := by unfold formE; rw [if_pos (by simp_all),if_neg (by simp_all),if_neg (by omega)]
    rw [hfe] at hat
    refine aloop (envCOk _ _ _) (fun j : Nat => ⟨[(1,.v (.eptr [.int .i64 s.width,.slice 2 (s.forms.map formA)])),(4,.v (.int .i64 0)),(5,.v (.int .i64 k)),(20,.v (.slice 2 (s.forms.map formA))),(21,.v (.int .i64 s.forms.length)),(22,.v (.int .i64 k)),
      (48,.v (.slice 3 (s.forms[k]!.parts.map partA))),(49,.v (.int .i64 s.forms[k]!.parts.length)),(50,.v (.int .i64 j))],[],[],m⟩)
     (fun j => j ≤ s.forms[k]!.parts.length ∧ ∀ i < j,partE s.forms[k]!.parts[i]! = 0) (fun j => s.forms[k]!.parts.length - j) 0 (fun _ => rfl) (by simp) (by (simp only [FE,↓FP,seval]); try simp) ?_
    rintro j ⟨hj,hq⟩
    simp(maxSteps:=9^9)only[↓VX,VQ,seval]
    repeat'(first|intro _|apply And.intro)
    all_goals try first|omega|(simp only[LL];omega)|exact nlC (by decide) _|exact nbC rfl
    ·have hjl : j < s.forms[k]!.parts.length := by omega
     have hpf : sizesFit s.forms[k]!.parts[j]!.words := hfm.2 _ (by rw [getD_any hjl]; exact List.getElem_mem hjl)
     have hpc := parted_c s.forms[k]!.parts[j]! hpf
     simp only [partA,strs] at hpc
     obtain ⟨e,he⟩ : ∃ e,e = partE s.forms[k]!.parts[j]! := ⟨_,rfl⟩
     rw [← he] at hpc
     (refine ACall.pure (hpc) ?_; try simp(maxSteps:=9^9)only[↓VX,VQ,seval])
     repeat'(first|intro _|apply And.intro)
     all_goals try first|omega|(simp only[LL];omega)|exact nlC (by decide) _|exact nbC rfl
     ·rw [hat e (by rw [partsE_at hjl hq (by rw [← he]; assumption),he]) (by assumption)]
     ·refine ⟨j + 1,⟨by omega,fun i hi => ?_⟩,by dsimp only; omega,?_⟩
      ·by_cases e1 : i = j
       ·subst e1; simp_all
       ·exact hq i (by omega)
      ·(simp only [FE,↓FP,seval])
       simp_all
    ·refine ⟨k + 1,⟨by omega,fun i hi => ?_⟩,by dsimp only; omega,?_⟩
     ·by_cases e1 : i = k
      ·subst e1
       rw [hfe]
       refine partsE_zero.2 fun p hp' => ?_
       obtain ⟨n,hn,rfl⟩ := List.getElem_of_mem hp'
       have := hq n (by omega)
       rwa [getElem!_pos _ n hn] at this
      ·exact hp i (by omega)
     ·(simp only [FE,↓FP,seval])
      simp
  ·have h0 : (formsE s).2 = 0 := failFrom_zero.2 fun i hi => by
    have := hp i (by omega)
    rw [Nat.zero_add]
    rwa [getElem!_pos s.forms i hi] at this
   rw [hE,if_neg (by simp [h0])]
def readerL (f s : List ByteArray) (b : Nat) : List AV := [strs f,strs s,.map b]
def placeA (i k : Nat) : AV := .agg [.int .i64 i,.int .i64 k]
theorem fits_c (f s : List ByteArray) (b i k : Nat) (hi : i < f.length) (hk : k < s.length) : PCall Tryz.prog 119 [.eptr (readerL f s b),placeA i k] (.bool (fitW s[k]! f[i]!)) := by
 intro m
 simp only [readerL,placeA,strs]
 (refine acall_intro (E := env fun _ => .imm) (envOk _) rfl Tryz.func119 rfl Tryz.call119 (by kernel_rfl) (by simp [Tryz.ntmps119]) ?_; simp only [Tryz.f119];  simp(maxSteps:=9^9)only[↓VX,VQ,seval])
 (refine adrawQ (by first | exact envOk _ | exact envCOk _ _ _) mixed (by kernel_rfl) 29 ?_; simp only [List.replicate_succ,List.replicate_zero]; show vcOpsD _ _ _ (_ :: _) _ _)
 simp(maxSteps:=9^9)only[↓VX,VQ,seval]
 repeat'(first|intro _|apply And.intro)
 all_goals try first|omega|(simp only[LL];omega)|exact nlC (by decide) _|exact nbC rfl
 ·rename_i h0
  have h1 : ¬ s[k]! = ByteArray.empty := h0
  unfold fitW
  rw [decide_eq_false h1,Bool.false_or]
 ·rename_i h0
  have h1 : s[k]! = ByteArray.empty := Decidable.of_not_not h0
  unfold fitW
  rw [decide_eq_true h1,Bool.true_or]
end Go.Proofs.YtdmejgfcaacdoaaGreat.Abs
