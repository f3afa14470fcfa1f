/- Lemmas for the statements of this seat (X41): they hold without conditions beyond those that each one states. -/
import Derived.Test.YtdmejgfcaacdoaaGreatX40
import Derived.Test.YtdmejgfcaacdoaaGreatX5
/- Laws: the least of some sound strings,in whatever order they are met. -/
namespace Go.Proofs.YtdmejgfcaacdoaaGreat.Abs
set_option linter.unusedSimpArgs false
open Go Go.RowKit Go.Proofs
theorem lexN_trans : ∀ {a b c : List Nat},lexN a b = true → lexN b c = true → lexN a c = true
 | [],[],_,h,_ => by cases h
 | [],_ :: _,[],_,h => by cases h
 | [],_ :: _,_ :: _,_,_ => rfl
 | _ :: _,[],_,h,_ => by cases h
 | _ :: _,_ :: _,[],_,h => by cases h
 | x :: a,y :: b,z :: c,h1,h2 => by
  rw [lexN] at h1 h2 ⊢
  by_cases q1 : x = y
  ·subst q1
   rw [if_pos rfl] at h1
   by_cases q2 : x = z
   ·rw [if_pos q2] at h2 ⊢
    exact lexN_trans h1 h2
   ·rw [if_neg q2] at h2 ⊢; exact h2
  ·rw [if_neg q1] at h1
   have h1 := of_decide_eq_true h1
   by_cases q2 : y = z
   ·subst q2
    rw [if_neg q1]; exact decide_eq_true h1
   ·rw [if_neg q2] at h2
    have h2 := of_decide_eq_true h2
    rw [if_neg (by omega)]; exact decide_eq_true (by omega)
theorem lexN_total : ∀ {a b : List Nat},a.length = b.length → lexN a b = false → lexN b a = false → a = b
 | [],[],_,_,_ => rfl
 | [],_ :: _,h,_,_ => by simp at h
 | _ :: _,[],h,_,_ => by simp at h
 | x :: a,y :: b,h,h1,h2 => by
  rw [lexN] at h1 h2
  by_cases q1 : x = y
  ·subst q1
   rw [if_pos rfl] at h1 h2
   rw [lexN_total (by simpa using h) h1 h2]
  ·rw [if_neg q1] at h1
   rw [if_neg (fun e => q1 e.symm)] at h2
   have h1 := of_decide_eq_false h1
   have h2 := of_decide_eq_false h2
   omega
theorem before_trans {a b c : List Nat} (h1 : beforeH a b = true) (h2 : beforeH b c = true) : beforeH a c = true := by
 unfold beforeH at *
 by_cases q1 : a.length = b.length
 ·rw [if_pos q1] at h1
  by_cases q2 : b.length = c.length
  ·rw [if_pos q2] at h2
   rw [if_pos (by omega)]; exact lexN_trans h1 h2
  ·rw [if_neg q2] at h2
   have h2 := of_decide_eq_true h2
   rw [if_neg (by omega)]; exact decide_eq_true (by omega)
 ·rw [if_neg q1] at h1
  have h1 := of_decide_eq_true h1
  by_cases q2 : b.length = c.length
  ·rw [if_neg (by omega)]; exact decide_eq_true (by omega)
  ·rw [if_neg q2] at h2
   have h2 := of_decide_eq_true h2
   rw [if_neg (by omega)]; exact decide_eq_true (by omega)
theorem before_irrefl (a : List Nat) : beforeH a a = false := by
 unfold beforeH
 rw [if_pos rfl,lexN_same]
theorem before_total {a b : List Nat} (h1 : beforeH a b = false) (h2 : beforeH b a = false) : a = b := by
 unfold beforeH at *
 by_cases q : a.length = b.length
 ·rw [if_pos q] at h1
  rw [if_pos q.symm] at h2
  exact lexN_total q h1 h2
 ·rw [if_neg q] at h1
  rw [if_neg (fun e => q e.symm)] at h2
  have h1 := of_decide_eq_false h1
  have h2 := of_decide_eq_false h2
  omega
theorem least_fold : ∀ (l : List (List Nat)) (b : List Nat),(l.foldl (fun b x => if beforeH x b = true then x else b) b = b ∨ l.foldl (fun b x => if beforeH x b = true then x else b) b ∈ l) ∧
  beforeH b (l.foldl (fun b x => if beforeH x b = true then x else b) b) = false ∧ ∀ x ∈ l,beforeH x (l.foldl (fun b x => if beforeH x b = true then x else b) b) = false
 | [],b => ⟨.inl rfl,before_irrefl b,by simp⟩
 | h :: l,b => by
  rw [List.foldl_cons]
  obtain ⟨i1,i2,i3⟩ := least_fold l (if beforeH h b = true then h else b)
  generalize List.foldl _ (if beforeH h b = true then h else b) l = r at *
  by_cases q : beforeH h b = true
  ·rw [if_pos q] at i1 i2
   refine ⟨.inr ?_,?_,fun x hx => ?_⟩
   ·rcases i1 with rfl | i1
    ·exact List.mem_cons_self
    ·exact List.mem_cons_of_mem _ i1
   ·rw [← Bool.not_eq_true]
    intro e
    rw [before_trans q e] at i2
    cases i2
   ·rcases List.mem_cons.1 hx with rfl | hx
    ·exact i2
    ·exact i3 x hx
  ·rw [if_neg q] at i1 i2
   refine ⟨?_,i2,fun x hx => ?_⟩
   ·rcases i1 with i1 | i1
    ·exact .inl i1
    ·exact .inr (List.mem_cons_of_mem _ i1)
   ·rcases List.mem_cons.1 hx with rfl | hx
    ·rw [← Bool.not_eq_true]
     intro e
     rcases i1 with rfl | i1
     ·exact q e
     ·exact absurd (before_total i2 (by
       rw [← Bool.not_eq_true]
       intro e2
       exact q (before_trans e e2))) fun eb => q (by rw [eb]; exact e)
    ·exact i3 x hx
theorem least_mem {l : List (List Nat)} (h : l ≠ []) : leastH l ∈ l ∧ ∀ x ∈ l,beforeH x (leastH l) = false := by
 cases l with
 | nil => exact absurd rfl h
 | cons a l =>
  obtain ⟨i1,i2,i3⟩ := least_fold l a
  refine ⟨?_,fun x hx => ?_⟩
  ·rcases i1 with i1 | i1
   ·show List.foldl _ a l ∈ _
    rw [i1]; exact List.mem_cons_self
   ·exact List.mem_cons_of_mem _ i1
  ·rcases List.mem_cons.1 hx with rfl | hx
   ·exact i2
   ·exact i3 x hx
theorem least_same {l l' : List (List Nat)} (h : ∀ x,x ∈ l ↔ x ∈ l') : leastH l = leastH l' := by
 by_cases q : l = []
 ·subst q
  have : l' = [] := List.eq_nil_iff_forall_not_mem.2 fun x hx => by have := (h x).2 hx; cases this
  rw [this]
 ·have q' : l' ≠ [] := by
   rintro rfl
   exact q (List.eq_nil_iff_forall_not_mem.2 fun x hx => by have := (h x).1 hx; cases this)
  obtain ⟨a1,a2⟩ := least_mem q
  obtain ⟨b1,b2⟩ := least_mem q'
  exact before_total (b2 _ ((h _).1 a1)) (a2 _ ((h _).2 b1))
theorem least_snoc (l : List (List Nat)) (h : List Nat) : leastH (l ++ [h]) = if l.length = 0 ∨ beforeH h (leastH l) = true then h else leastH l := by
 cases l with
 | nil => simp [leastH]
 | cons a l =>
  show (l ++ [h]).foldl _ a = if (l.length + 1 = 0) ∨ _ then _ else _
  rw [List.foldl_append]
  show (if beforeH h (leastH (a :: l)) = true then h else leastH (a :: l)) = _
  by_cases q : beforeH h (leastH (a :: l)) = true
  ·rw [if_pos q,if_pos (.inr q)]
  ·rw [if_neg q,if_neg (by rintro (e | e); (· omega); exact q e)]
theorem nodup_le {α : Type} [BEq α] [LawfulBEq α] : ∀ {l l' : List α},l.Nodup → (∀ x ∈ l,x ∈ l') → l.length ≤ l'.length
 | [],_,_,_ => Nat.zero_le _
 | a :: l,l',hn,hs => by
  have ha := hs a List.mem_cons_self
  obtain ⟨h1,h2⟩ := List.nodup_cons.1 hn
  have := nodup_le (l := l) (l' := l'.erase a) h2 fun x hx => by
   have hne : x ≠ a := fun e => h1 (by rw [← e]; exact hx)
   exact (List.mem_erase_of_ne hne).2 (hs x (List.mem_cons_of_mem _ hx))
  rw [List.length_erase_of_mem ha] at this
  have : 0 < l'.length := List.length_pos_of_mem ha
  rw [List.length_cons]; omega
theorem nodup_same {α : Type} [BEq α] [LawfulBEq α] {l l' : List α} (h : l.Nodup) (h' : l'.Nodup) (hs : ∀ x,x ∈ l ↔ x ∈ l') : l.length = l'.length :=
 Nat.le_antisymm (nodup_le h fun x hx => (hs x).1 hx) (nodup_le h' fun x hx => (hs x).2 hx)
def selB (p : KB) (set : Nat) : List (List Nat) := p.1.filter fun h => decide (p.2 h &&& set = set)
structure MetB (p : KB) (set : Nat) (seen : List Nat) (L : List (List Nat)) : Prop where
 n : seen.Nodup
 lt : ∀ s ∈ seen,s < p.1.length
 ln : L.Nodup
 m : ∀ x,x ∈ L ↔ ∃ i ∈ seen,p.1[i]? = some x ∧ p.2 x &&& set = set
theorem met_nil (p : KB) (set : Nat) : MetB p set [] [] := ⟨List.nodup_nil,by simp,List.nodup_nil,by simp⟩
theorem met_all {p : KB} (hp : BOk p) {set : Nat} {seen : List Nat} {L : List (List Nat)} (h : MetB p set seen L) (ha : ∀ i,i < p.1.length → i ∈ seen) : leastH L = leastH (selB p set) ∧ L.length = (selB p set).length := by
 have hs : ∀ x,x ∈ L ↔ x ∈ selB p set := fun x => by
  rw [h.m]
  unfold selB
  rw [List.mem_filter]
  constructor
  ·rintro ⟨i,_,h1,h2⟩
   exact ⟨List.mem_of_getElem? h1,decide_eq_true h2⟩
  ·rintro ⟨h1,h2⟩
   obtain ⟨i,hi,rfl⟩ := List.getElem_of_mem h1
   exact ⟨i,ha i hi,List.getElem?_eq_getElem hi,of_decide_eq_true h2⟩
 exact ⟨least_same hs,nodup_same h.ln (hp.n.filter _) hs⟩
theorem met_len {p : KB} {set : Nat} {seen : List Nat} {L : List (List Nat)} (h : MetB p set seen L) : seen.length ≤ p.1.length ∧ L.length ≤ p.1.length := by
 constructor
 ·have := nodup_le h.n (l' := List.range p.1.length) fun x hx => List.mem_range.2 (h.lt x hx)
  rwa [List.length_range] at this
 ·exact nodup_le h.ln fun x hx => by
   obtain ⟨i,_,h1,_⟩ := (h.m x).1 hx
   exact List.mem_of_getElem? h1
theorem met_snoc {p : KB} (hp : BOk p) {set : Nat} {seen : List Nat} {L : List (List Nat)} (h : MetB p set seen L) {s : Nat} {x : List Nat} (hs : p.1[s]? = some x) (hn : s ∉ seen) :
  MetB p set (seen ++ [s]) (if p.2 x &&& set = set then L ++ [x] else L) := by
 have hnod : (seen ++ [s]).Nodup := by
  rw [List.nodup_append]
  exact ⟨h.n,by simp,fun a ha c hc e => by
   rw [List.mem_singleton] at hc
   subst hc e
   exact hn ha⟩
 have hlt : ∀ t ∈ seen ++ [s],t < p.1.length := fun t ht => by
  rcases List.mem_append.1 ht with q | q
  ·exact h.lt t q
  ·rw [List.mem_singleton] at q
   rw [q]; exact (List.getElem?_eq_some_iff.1 hs).1
 have hxn : x ∉ L := fun hx => by
  obtain ⟨i,hi,h1,_⟩ := (h.m x).1 hx
  obtain ⟨g1,g2⟩ := List.getElem?_eq_some_iff.1 h1
  obtain ⟨g3,g4⟩ := List.getElem?_eq_some_iff.1 hs
  have hpw := List.pairwise_iff_getElem.1 hp.n
  rcases Nat.lt_trichotomy i s with c | c | c
  ·exact hpw i s g1 g3 c (g2.trans g4.symm)
  ·exact hn (by rw [← c]; exact hi)
  ·exact hpw s i g3 g1 c (g4.trans g2.symm)
 by_cases q : p.2 x &&& set = set
 ·rw [if_pos q]
  refine ⟨hnod,hlt,?_,fun y => ?_⟩
  ·rw [List.nodup_append]
   exact ⟨h.ln,by simp,fun a ha c hc e => by
    rw [List.mem_singleton] at hc
    subst hc e
    exact hxn ha⟩
  ·rw [List.mem_append,List.mem_singleton,h.m]
   constructor
   ·rintro (⟨i,h1,h2⟩ | rfl)
    ·exact ⟨i,List.mem_append_left _ h1,h2⟩
    ·exact ⟨s,by simp,hs,q⟩
   ·rintro ⟨i,h1,h2,h3⟩
    rcases List.mem_append.1 h1 with g | g
    ·exact .inl ⟨i,g,h2,h3⟩
    ·rw [List.mem_singleton] at g
     subst g
     rw [hs] at h2
     exact .inr (Option.some.inj h2).symm
 ·rw [if_neg q]
  refine ⟨hnod,hlt,h.ln,fun y => ?_⟩
  rw [h.m]
  constructor
  ·rintro ⟨i,h1,h2⟩
   exact ⟨i,List.mem_append_left _ h1,h2⟩
  ·rintro ⟨i,h1,h2,h3⟩
   rcases List.mem_append.1 h1 with g | g
   ·exact ⟨i,g,h2,h3⟩
   ·rw [List.mem_singleton] at g
    subst g
    rw [hs] at h2
    cases h2
    exact absurd h3 q
set_option maxHeartbeats 4000000
set_option maxRecDepth 100000
theorem earfirst1_c (b : REar) (bm : Nat) (p : KB) (hp : BOk p) (hn : p.1.length ≤ 1000000) (set : Nat) (hset : set < 32) (m : Mem) (hm : m bm = some (boxB p)) :
  ACall Tryz.prog 129 [.eptr (bookL b bm),.int .i64 set] m fun r m' => r = .tuple [heardA (leastH (selB p set)),.int .i64 (selB p set).length] ∧ m' = m := by
 refine ACall.forget ?_
 have h0 : heardL [] = [.int .i64 0,.int .i64 0,.int .i64 0,.int .i64 0,.int .i64 0,.int .i64 0] := rfl
 have hmb : m bm = some (.mapS (kvB p) (List.range p.1.length) p.1.length) := hm
 simp only [bookL]
 (refine acall_intro (E := envC (modeAt [4,6] []) false [1,2,3]) (envCOk _ _ _) rfl Tryz.func129 rfl Tryz.call129 (by kernel_rfl) (by simp [Tryz.ntmps129]) ?_; simp only [Tryz.f129];  simp(maxSteps:=9^9)only[↓VX,VQ,seval,hmb])
 refine acut_at_k 4 (envCOk _ _ _) (V := vcX _) (fun h hd _ _ _ hi hf hs _ _ _ hn => vcX_sound (envCOk _ _ _) h hd hi hf hs hn) rfl rfl (fun bi : Nat => ⟨[(1,.v (.int .i64 set)),(5,.v (.int .i64 0)),(4,.loc 4 0),(12,.v (.ptr bi 0))],[],[(4,heardL [])],upd m bi (some (.miter bm p.1.length [] p.1.length))⟩) (fun bi => m bi = none) (fun _ => rfl) ?_ ?_
 ·show vcOps _ _ (_ :: _) _ _
  simp(maxSteps:=9^9)only[↓VX,VQ,seval,List.take_succ_cons,List.take_zero,vcX,evX,hmb]
  intro bi hbi
  refine ⟨bi,hbi,?_⟩
  (simp only [FE,↓FP,seval])
  repeat' (first | rfl | apply And.intro)
 rintro bi hbi
 have hbb : bi ≠ bm := by rintro rfl; rw [hbi] at hmb; cases hmb
 simp(maxSteps:=9^9)only[↓VX,VQ,seval]
 refine aloop (envCOk _ _ _) (fun q : List Nat × List (List Nat) => ⟨[(1,.v (.int .i64 set)),(5,.v (.int .i64 q.2.length)),(4,.loc 4 0),(12,.v (.ptr bi 0))],[],[(4,heardL (leastH q.2))],upd m bi (some (.miter bm p.1.length q.1 p.1.length))⟩)
  (fun q => MetB p set q.1 q.2) (fun q => p.1.length - q.1.length) ([],[]) (fun _ => rfl) (met_nil p set) (by (simp only [FE,↓FP,seval]); repeat' (first | rfl | apply And.intro)) ?_
 rintro ⟨seen,L⟩ hmet
 dsimp only at hmet ⊢
 obtain ⟨hsl,hLl⟩ := met_len hmet
 obtain ⟨M,hM⟩ : ∃ M : Mem,M = upd m bi (some (.miter bm p.1.length seen p.1.length)) := ⟨_,rfl⟩
 have hMi : M bi = some (.miter bm p.1.length seen p.1.length) := by rw [hM,upd_same]
 have hMb : M bm = some (.mapS (kvB p) (List.range p.1.length) p.1.length) := by rw [hM,upd_ne _ _ (Ne.symm hbb)]; exact hmb
 rw [← hM]
 obtain ⟨B,hB⟩ : ∃ B,B = leastH L := ⟨_,rfl⟩
 rw [← hB]
 have hkl : (kvB p).length = p.1.length := by simp [kvB]
 simp only [heardL]
 simp(maxSteps:=9^9)only[↓VX,VQ,seval]
 refine acut_at_k 0 (envCOk _ _ _) (V := vcX _) (fun h hd _ _ _ hi hf hs _ _ _ hn => vcX_sound (envCOk _ _ _) h hd hi hf hs hn) rfl rfl (fun o : Option Nat => match o with
  | none => ⟨[(1,.v (.int .i64 set)),(5,.v (.int .i64 L.length)),(4,.loc 4 0),(12,.v (.ptr bi 0)),(14,.v (.bool false))],[],[(4,heardL B)],M⟩
  | some s => ⟨[(1,.v (.int .i64 set)),(5,.v (.int .i64 L.length)),(4,.loc 4 0),(12,.v (.ptr bi 0)),(14,.v (.bool true))],[],[(4,heardL B)],upd m bi (some (.miter bm p.1.length (seen ++ [s]) p.1.length))⟩)
  (fun o => match o with
  | none => ∀ i,i < p.1.length → i ∈ seen
  | some s => s ∉ seen ∧ s < p.1.length) (fun o => by cases o <;> rfl) ?_ ?_
 ·show vcOps _ _ [] _ _
  simp(maxSteps:=9^9)only[↓VX,VQ,seval,List.take_succ_cons,List.take_zero,vcX,evX,hMi,hMb]
  refine ⟨⟨fun x hx => List.mem_range.1 hx,Nat.le_refl _⟩,fun hall => ⟨none,fun i hi => hall i (List.mem_range.2 hi),?_⟩,fun j s p' hj hs hp' => ⟨some s,⟨hs,List.mem_range.1 (List.mem_of_getElem? hj)⟩,?_⟩⟩
  ·(simp only [FE,↓FP,seval])
   repeat' (first | rfl | apply And.intro)
  ·(simp only [FE,↓FP,seval])
   rw [hM,upd_upd]
   repeat' (first | rfl | apply And.intro)
 rintro o ho
 cases o with
 | none =>
  have hall := met_all hp hmet ho
  dsimp only
  simp only [heardL]
  simp(maxSteps:=9^9)only[↓VX,VQ,seval]
  refine ⟨m,fun k y hk => ?_,?_,rfl⟩
  ·rw [hM,upd_ne _ _ (by rintro rfl; rw [hbi] at hk; cases hk)]; exact hk
  ·rw [← hall.1,← hall.2,← hB]; rfl
 | some s =>
  obtain ⟨hs1,hs2⟩ := ho
  obtain ⟨x,hx⟩ : ∃ x,p.1[s]? = some x := ⟨_,List.getElem?_eq_getElem hs2⟩
  have hsn := met_snoc hp hmet hx hs1
  dsimp only
  simp only [heardL]
  obtain ⟨M2,hM2⟩ : ∃ M2 : Mem,M2 = upd m bi (some (.miter bm p.1.length (seen ++ [s]) p.1.length)) := ⟨_,rfl⟩
  have hMi2 : M2 bi = some (.miter bm p.1.length (seen ++ [s]) p.1.length) := by rw [hM2,upd_same]
  have hMb2 : M2 bm = some (.mapS (kvB p) (List.range p.1.length) p.1.length) := by rw [hM2,upd_ne _ _ (Ne.symm hbb)]; exact hmb
  rw [← hM2]
  simp(maxSteps:=9^9)only[↓VX,VQ,seval]
  refine acut_at_k 0 (envCOk _ _ _) (V := vcX _) (fun h hd _ _ _ hi hf hs _ _ _ hn => vcX_sound (envCOk _ _ _) h hd hi hf hs hn) rfl rfl (fun _ : Unit => ⟨[(1,.v (.int .i64 set)),(5,.v (.int .i64 L.length)),(4,.loc 4 0),(6,.loc 6 0),(7,.v (.int .i64 (p.2 x))),(12,.v (.ptr bi 0))],[],[(4,heardL B),(6,heardL x)],M2⟩) (fun _ => True) (fun _ => rfl) ?_ ?_
  ·show vcOps _ _ [] _ _
   simp(maxSteps:=9^9)only[↓VX,VQ,seval,List.take_succ_cons,List.take_zero,vcX,evX,hMi2,hMb2]
   refine ⟨List.nodup_range,s,s,(heardA x,valB p x),by simp,List.getElem?_range hs2,by unfold kvB; rw [List.getElem?_map,hx]; rfl,⟨rfl,rfl,rfl⟩,?_⟩
   dsimp only [heardA,valB]
   (simp only [FE,↓FP,seval])
   exact ⟨(),rfl,rfl⟩
  rintro _ _
  simp only [heardL]
  have hx5 : x.length ≤ 5 := hp.l x (List.mem_of_getElem? hx)
  have hB5 : B.length ≤ 5 := by
   rw [hB]
   by_cases q : L = []
   ·rw [q]; exact Nat.zero_le _
   ·obtain ⟨j,_,h1,_⟩ := (hmet.m _).1 (least_mem q).1
    exact hp.l _ (List.mem_of_getElem? h1)
  have hv32 := hp.b x
  have hls := least_snoc L x
  rw [← hB] at hls
  have hbf := before_c x B hx5 hB5
  have hsl2 : p.1.length - (seen ++ [s]).length < p.1.length - seen.length := by
   have := (met_len hsn).1
   rw [List.length_append,List.length_singleton] at this ⊢
   omega
  obtain ⟨P,hP⟩ : ∃ P,P = p.2 x &&& set := ⟨_,rfl⟩
  refine Or.elim (Decidable.em (P = set)) (fun hq => ?_) (fun hq => ?_)
  rotate_left
  ·have zq : ((P : Int) = (set : Int)) = False := eq_false (by omega)
   rw [if_neg (by rw [← hP]; exact hq)] at hsn
   simp(maxSteps:=9^9)only[↓VX,VQ,seval,← hP,zq]
   refine ⟨⟨⟨by omega,by omega⟩,by omega,by omega⟩,(seen ++ [s],L),hsn,hsl2,?_⟩
   (simp only [FE,↓FP,seval])
   rw [← hB,← hM2]
   repeat' (first | rfl | apply And.intro)
  have zq : ((P : Int) = (set : Int)) = True := eq_true (by omega)
  rw [if_pos (by rw [← hP]; exact hq)] at hsn
  have hlen1 : ((L ++ [x]).length : Int) = (L.length : Int) + 1 := by simp
  refine Or.elim (Decidable.em (L.length = 0)) (fun h0 => ?_) (fun h0 => ?_)
  ·have z0 : ((L.length : Int) + 1 = 1) = True := eq_true (by omega)
   rw [if_pos (.inl h0)] at hls
   simp(maxSteps:=9^9)only[↓VX,VQ,seval,← hP,zq,z0]
   refine ⟨⟨⟨by omega,by omega⟩,by omega,by omega⟩,⟨by omega,by omega⟩,(seen ++ [s],L ++ [x]),hsn,hsl2,?_⟩
   (simp only [FE,↓FP,seval])
   rw [hls,hlen1,← hM2]
   repeat' (first | rfl | apply And.intro)
  ·have z0 : ((L.length : Int) + 1 = 1) = False := eq_false (by omega)
   simp only [heardA,heardL] at hbf
   obtain ⟨Q,hQ⟩ : ∃ Q,Q = beforeH x B := ⟨_,rfl⟩
   rw [← hQ] at hbf hls
   simp(maxSteps:=9^9)only[↓VX,VQ,seval,← hP,zq,z0]
   refine ⟨⟨⟨by omega,by omega⟩,by omega,by omega⟩,⟨by omega,by omega⟩,?_⟩
   refine ACall.pure hbf ?_
   cases Q
   ·rw [if_neg (by rintro (e | e); (· exact h0 e); cases e)] at hls
    simp(maxSteps:=9^9)only[↓VX,VQ,seval]
    refine ⟨(seen ++ [s],L ++ [x]),hsn,hsl2,?_⟩
    (simp only [FE,↓FP,seval])
    rw [hls,hlen1,← hM2]
    repeat' (first | rfl | apply And.intro)
   ·rw [if_pos (.inr rfl)] at hls
    simp(maxSteps:=9^9)only[↓VX,VQ,seval]
    refine ⟨(seen ++ [s],L ++ [x]),hsn,hsl2,?_⟩
    (simp only [FE,↓FP,seval])
    rw [hls,hlen1,← hM2]
    repeat' (first | rfl | apply And.intro)
theorem vcZF_o {E : Env} {o : Oper} {K : St → Prop} {st : St} (h : isCopy o.op = false) (h' : isSliceE o.op = false) (hk : vcOp E o K st) : vcZF E o K st := by
 unfold vcZF vcZ
 rw [if_neg (by simp [h]),if_neg (by simp [h'])]; exact hk
theorem vcZF_s {E : Env} {o : Oper} {K : St → Prop} {st : St} (h : isCopy o.op = false) (h' : isSliceE o.op = true) (hk : vcSliceE E o K st) : vcZF E o K st := by
 unfold vcZF vcZ
 rw [if_neg (by simp [h]),if_pos h']; exact hk
theorem vcZF_c {E : Env} {o : Oper} {K : St → Prop} {st : St} (h : isCopy o.op = true) (hk : vcCopyF E o K st) : vcZF E o K st := by
 unfold vcZF
 rw [if_pos h]; exact hk
theorem flat_ints : ∀ l : List Int,((l.map (AV.int .i64)).map AV.cells).flatten = l.map (AV.int .i64)
 | [] => rfl
 | x :: l => by
  rw [List.map_cons,List.map_cons,List.flatten_cons,flat_ints l]; rfl
theorem zeros_len (n : Nat) : (List.replicate n [AV.int .i64 0]).flatten.length = n := by simp
theorem heardlist_c (h : List Nat) (h0 : 0 < h.length) (h5 : h.length ≤ 5) : PCall Tryz.prog 130 [heardA h] (ints (intsN h)) := by
 intro m
 have hL : ([AV.int .i64 (snd h 0),.int .i64 (snd h 1),.int .i64 (snd h 2),.int .i64 (snd h 3),.int .i64 (snd h 4)] : List AV).all flat = true := rfl
 have ht : ([AV.int .i64 (snd h 0),.int .i64 (snd h 1),.int .i64 (snd h 2),.int .i64 (snd h 3),.int .i64 (snd h 4)] : List AV).take h.length = (intsN h).map (AV.int .i64) := by
  have e : ([AV.int .i64 (snd h 0),.int .i64 (snd h 1),.int .i64 (snd h 2),.int .i64 (snd h 3),.int .i64 (snd h 4)] : List AV) = (padI h).map (AV.int .i64) := rfl
  rw [e,padI_eq h5,← List.map_take,List.take_left' (by simp [intsN])]
 simp only [heardA,heardL,ints]
 (refine acall_intro (E := envC (modeAt [] [6]) false [2,3]) (envCOk _ _ _) rfl Tryz.func130 rfl Tryz.call130 (by kernel_rfl) (by simp [Tryz.ntmps130]) ?_; simp only [Tryz.f130];  simp(maxSteps:=9^9)only[↓VX,VQ,seval,])
 refine ⟨⟨by omega,by omega,by omega⟩,?_⟩
 intro b hb
 refine acut_all (V := vcZF _) (fun h hd _ _ _ hi hf hs _ _ _ hn => vcZF_sound (envCOk _ _ _) h hd hi hf hs hn) rfl (fun _ : Unit => ⟨[(3,.v (.mslice b 0 h.length h.length))],[],[],upd m b (some (.cells ((intsN h).map (AV.int .i64))))⟩) (fun _ => True) (fun _ => rfl) ?_ ?_
 ·refine vcAll_cons (vcZF_o rfl rfl ?_)
  simp(maxSteps:=9^9)only[↓VX,VQ,seval]
  refine vcAll_cons (vcZF_o rfl rfl ?_)
  simp(maxSteps:=9^9)only[↓VX,VQ,seval]
  refine vcAll_cons (vcZF_s rfl rfl ?_)
  simp(maxSteps:=9^9)only[↓VX,VQ,seval,vcSliceE,hL]
  refine vcAll_cons (vcZF_c rfl ?_)
  simp(maxSteps:=9^9)only[↓VX,VQ,seval,vcCopyF]
  refine ⟨⟨h0,h5,by rw [zeros_len]; exact Nat.le_refl _⟩,?_⟩
  simp only [vcAll]
  refine ⟨(),?_⟩
  (simp only [FE,↓FP,seval])
  rw [upd_upd,ht,flat_ints,List.drop_eq_nil_of_le (by rw [zeros_len]; simp [intsN]),List.append_nil]
 rintro _ _
 simp(maxSteps:=9^9)only[↓VX,VQ,seval]
 refine acut_melt (envCOk _ _ _) (fun _ : Unit => ⟨[(2,.v (.slice 1 ((intsN h).map (AV.int .i64))))],[],[],m⟩) (fun _ => True) (fun _ => b) (fun _ => 1) (fun _ => (intsN h).map (AV.int .i64)) (fun _ => []) (fun _ => rfl) ?_ ?_
 ·show vcOps _ _ (_ :: _) _ _
  simp(maxSteps:=9^9)only[↓VX,VQ,seval]
  refine ⟨(),⟨_,rfl,?_,?_⟩,?_⟩
  ·rw [upd_same,flat_ints]
  ·intro e he
   obtain ⟨q,_,rfl⟩ := List.mem_map.1 he
   exact ⟨rfl,rfl⟩
  ·simp only [Fits,fitsV,fitsO,fitsL,St.melt,↓upd,↓lookV,↓lookO,↓lookL,Nat.reduceEqDiff,↓reduceIte,and_true,true_and,Option.some.injEq,meltV,meltA,Option.map_some,List.map_cons,List.map_nil]
   exact ⟨by rw [if_pos ⟨by simp [intsN],Nat.le_refl _,by unfold maxLen; omega⟩],by rw [upd_upd]; funext k; by_cases e : k = b; (· rw [e,upd_same,hb]); rw [upd_ne _ _ e]⟩
 rintro _ _
 simp(maxSteps:=9^9)only[↓VX,VQ,seval]
def numsB (set many : Nat) : List Nat := (List.range many).filter fun i => set.testBit i
theorem numbers_c (set many : Nat) (hs : set < 32) (hm : many ≤ 5) : PCall Tryz.prog 131 [.int .i64 set,.int .i64 many] (ints (intsN (numsB set many))) := by
 intro m
 simp only [ints]
 (refine acall_intro (E := envC (modeAt [4] []) false []) (envCOk _ _ _) rfl Tryz.func131 rfl Tryz.call131 (by kernel_rfl) (by simp [Tryz.ntmps131]) ?_; simp only [Tryz.f131];  simp(maxSteps:=9^9)only[↓VX,VQ,seval,])
 refine aloop (envCOk _ _ _) (fun i : Nat => ⟨[(0,.v (.int .i64 set)),(4,.v (.slice 1 ((intsN (numsB set i)).map (AV.int .i64)))),(6,.v (.int .i64 many)),(7,.v (.int .i64 i))],[4],[],m⟩)
  (fun i => i ≤ many) (fun i => many - i) 0 (fun _ => rfl) (Nat.zero_le _) (by (simp only [FE,↓FP,seval]); repeat' (first | rfl | apply And.intro)) ?_
 rintro i hi
 by_cases hil : i < many
 ·have z1 : ((i : Int) < (many : Int)) = True := eq_true (by omega)
  have hns : numsB set (i + 1) = numsB set i ++ if set.testBit i = true then [i] else [] := by
   unfold numsB
   rw [List.range_succ,List.filter_append]
   congr 1
   cases q : set.testBit i <;> simp [q]
  have hnl : (intsN (numsB set i)).length ≤ 5 := by
   have h1 := List.length_filter_le (fun i => set.testBit i) (List.range i)
   rw [List.length_range] at h1
   simp only [intsN,List.length_map]
   show (numsB set i).length ≤ 5
   unfold numsB
   omega
  have hd := Nat.div_le_self set (2 ^ i)
  simp(maxSteps:=9^9)only[↓VX,VQ,seval,z1]
  repeat'(first|intro _|apply And.intro)
  all_goals try first|omega|(simp only[LL];omega)|exact nlC (by decide) _|exact nbC rfl
  ·have hq : set.testBit i = true := by assumption
   rw [if_pos hq] at hns
   refine ⟨i + 1,by omega,by dsimp only; omega,?_⟩
   (simp only [FE,↓FP,seval])
   rw [hns]
   simp [intsN]
  ·have hq : ¬ set.testBit i = true := by assumption
   rw [if_neg hq,List.append_nil] at hns
   refine ⟨i + 1,by omega,by dsimp only; omega,?_⟩
   (simp only [FE,↓FP,seval])
   rw [hns]
   simp
 ·have z1 : ((i : Int) < (many : Int)) = False := eq_false (by omega)
  obtain rfl : i = many := by omega
  simp(maxSteps:=9^9)only[↓VX,VQ,seval,z1]
  try rfl
end Go.Proofs.YtdmejgfcaacdoaaGreat.Abs
