/- Lemmas for the statements of this seat (X23): they hold without conditions beyond those that each one states. -/
import Derived.Test.YtdmejgfcaacdoaaGreatX22
/- Contracts: how many corrections a letter needs at least to be of a form. -/
namespace Go.Proofs.YtdmejgfcaacdoaaGreat.Abs
set_option linter.unusedSimpArgs false
set_option maxHeartbeats 4000000
set_option maxRecDepth 100000
open Go Go.RowKit Go.Proofs
theorem leastOf_snoc (l : List Nat) (n : Nat) : leastOf (l ++ [n]) = if leastOf l < 0 ∨ (n : Int) < leastOf l then (n : Int) else leastOf l := by
 cases l with
 | nil => simp [leastOf]
 | cons a t =>
  have h0 : ∀ (t : List Nat) (b : Int),0 ≤ b → 0 ≤ t.foldl (fun (b : Int) (x : Nat) => min b x) b := by
   intro t
   induction t with
   | nil => intro b hb; exact hb
   | cons x t ih => intro b hb; exact ih _ (by show 0 ≤ min b (x : Int); omega)
  have := h0 t a (by omega)
  show List.foldl _ _ (t ++ [n]) = _
  rw [List.foldl_append]
  show min (leastOf (a :: t)) (n : Int) = _
  have h1 : 0 ≤ leastOf (a :: t) := this
  split <;> omega
structure MendJ (d : List Nat → Nat) (b5 l : Nat) (R : LoopA) (m : Mem) (pre : List (List Nat)) (m1 : Mem) : Prop where
 l : m1 l = some (.loop .ready none R)
 f5 : m1 b5 = some (.cells [.int .i64 (leastOf (pre.map d))])
 sub : ∀ k y,m k = some y → m1 k = some y
theorem mends_c (nm : ByteArray) (ps : List RPart) (hps : partsE ps = 0) (h5 : ps.length ≤ 5) (l : List ByteArray) (hl15 : l.length ≤ 15) (m : Mem) :
  ACall Tryz.prog 56 [.eptr (seenF nm (.slice 3 (ps.map partA)) (roomsOf ps)),strs l] m fun r m' => r = .int .i64 (mendsOf ps l) ∧ ∀ k y,m k = some y → m' k = some y := by
 have hcn := counts_c (seenF nm (.slice 3 (ps.map partA)) (roomsOf ps))
 have hrm := rooms_le ps
 have hpf := parts_fit hps h5
 have hcm := counts_mem (parts_rooms hps)
 have hsh := fun x (hx : x ∈ countsOf (roomsOf ps)) => shape_c nm ps (.slice 2 ((roomsOf ps).map spanR)) hpf x (hcm x hx).1 (hcm x hx).2
 have hsl := fun x (hx : x ∈ countsOf (roomsOf ps)) => shape_length (ps := ps) (m := x) hpf.2 (hcm x hx).2
 have hc1 := fun (k : Nat) (S : Nat → Prop) (J : List (List Nat) → Mem → Prop) (F : Mem → Prop) (m : Mem) (hy : COk k m S J F) => counts1_c nm (.slice 3 (ps.map partA)) (roomsOf ps) (fun r hr => by have := parts_rooms hps r hr; omega) (by omega) hy
 have hls := fun x m => listen_c l (shapeOf ps x) m
 have hco := fun x (h : (shapeOf ps x).length ≤ 1000000) b m hm => corr_c l (shapeOf ps x) (by omega) h b 0 0 (Nat.zero_le _) (Nat.zero_le _) [] m hm
 have hw : mendsOf ps l = leastOf ((countsOf (roomsOf ps)).map fun x => dist l (shapeOf ps x)) := rfl
 simp only [seenF,strs,manyA,readerL,placeA,Int.natCast_zero] at hcn hsh hc1 hls hco ⊢
 (refine acall_intro (E := envC (modeAt [6] [5]) false []) (envCOk _ _ _) rfl Tryz.func56 rfl Tryz.call56 (by kernel_rfl) (by simp [Tryz.ntmps56]) ?_; simp only [Tryz.f56];  simp(maxSteps:=9^9)only[↓VX,VQ,seval])
 repeat'(first|intro _|apply And.intro)
 all_goals try first|omega|(simp only[LL];omega)|exact nlC (by decide) _|exact nbC rfl
 rename_i b5 hb5
 (refine ACall.pure (hcn) ?_; try simp(maxSteps:=9^9)only[↓VX,VQ,seval])
 refine arange rfl (f := 150) (first := []) (caps := [.eptr [.eptr [.str nm,.slice 3 (ps.map partA),.slice 2 ((roomsOf ps).map spanR)]]]) (by simp(maxSteps:=9^9)only[↓VX,VQ,seval]) ?_
 intro k hk
 have k5 : k ≠ b5 := by rintro rfl; simp [upd] at hk
 have hk0 : m k = none := by simpa [upd,k5] using hk
 generalize hR : LoopA.mk _ _ _ _ _ = R
 obtain ⟨J,hJdef⟩ : ∃ J : List (List Nat) → Mem → Prop,∀ rest m1,J rest m1 ↔ ∃ pre,pre ++ rest = countsOf (roomsOf ps) ∧ MendJ (fun x => dist l (shapeOf ps x)) b5 k R m pre m1 := ⟨_,fun _ _ => Iff.rfl⟩
 have hyok : COk k (upd (upd (upd m b5 (some (.cells [.int .i64 0]))) b5 (some (.cells [.int .i64 (-1)]))) k (some (.loop .ready none R))) (fun b => b = k ∨ b = b5) J (fun _ => False) := by
  refine ⟨fun x rest m1 hJ => ?_,fun rest m1 b x hb hb0 hJ => ?_⟩
  ·obtain ⟨pre,hpre,j1,j5,js⟩ := (hJdef _ _).1 hJ
   refine ayield (E := envC (modeAt [6] [5]) true []) (envCOk _ _ _) rfl j1 (by rw [← hR]; rfl) (by rw [← hR]; rfl) (by rw [← hR]; rfl) (by rw [← hR]; rfl) ?_
   rw [← hR]
   have hxC : x ∈ countsOf (roomsOf ps) := by rw [← hpre]; simp
   have hs := hsh x hxC
   have hll := hls x
   have hcc := hco x (by have := hsl x hxC; omega)
   have hx5 := many5 (x := x) (by have := (hcm x hxC).1; omega)
   have hsn := leastOf_snoc (pre.map fun x => dist l (shapeOf ps x)) (dist l (shapeOf ps x))
   have hd0 : leftP l (shapeOf ps x) (0,0) = (dist l (shapeOf ps x) : Nat) := rfl
   rw [hd0] at hcc
   have hJ' : ∀ m2 : Mem,m2 k = some (.loop .ready none R) → m2 b5 = some (.cells [.int .i64 (leastOf ((pre.map fun x => dist l (shapeOf ps x)) ++ [dist l (shapeOf ps x)]))]) →
     (∀ j y,m1 j = some y → j ≠ k → j ≠ b5 → m2 j = some y) → Keeps (fun b => b = k ∨ b = b5) m1 m2 ∧ J rest m2 := fun m2 w1 w3 w5 => by
    refine ⟨fun j y hj hy => ?_,(hJdef _ _).2 ⟨pre ++ [x],by rw [← hpre]; simp,w1,by rw [w3,List.map_append]; rfl,fun j y hy => ?_⟩⟩
    ·simp only [not_or] at hj
     exact w5 j y hy hj.1 hj.2
    ·exact w5 j y (js j y hy) (ne_none hy hk0) (ne_none hy hb5)
   rw [hsn] at hJ'
   generalize shapeOf ps x = sh at *
   generalize leastOf (pre.map fun x => dist l (shapeOf ps x)) = B at *
   generalize dist l sh = D at *
   simp only [manyA,hx5,List.map_cons,List.map_nil] at hs ⊢
   simp(maxSteps:=9^9)only[↓VX,VQ,seval,j1,j5,k5,k5.symm]
   (refine adrawP (by first | exact envOk _ | exact envCOk _ _ _) mixed [0,1,2,3,5,4,6,7] [⟨false,false,0⟩,⟨false,false,0⟩,⟨false,false,0⟩,⟨false,false,0⟩,⟨false,false,2⟩,⟨true,false,0⟩,⟨false,false,2⟩,⟨false,false,0⟩] (by kernel_rfl) ?_; simp only [List.map_cons,List.map_nil,List.getD_cons_zero,List.getD_cons_succ,List.getElem?_cons_zero,List.getElem?_cons_succ,Option.getD_some]; show vcOpsD _ _ _ (_ :: _) _ _)
   simp(maxSteps:=9^9)only[↓VX,VQ,seval]
   (refine ⟨_,.inl (hs),?_⟩; try simp(maxSteps:=9^9)only[↓VX,VQ,seval])
   try simp(maxSteps:=9^9)only[↓VX,VQ,seval,buildV]
   refine ACall.told (hll _) ?_
   rintro r m2 ⟨b,hb,rfl,rfl⟩
   have nbk : b ≠ k := by rintro rfl; simp [upd] at hb
   have hb1 : m1 b = none := by simpa [upd,nbk] using hb
   have nb5 : b ≠ b5 := (ne_none j5 hb1).symm
   simp(maxSteps:=9^9)only[↓VX,VQ,seval]
   refine ACall.told (hcc b _ (upd_same _ _ _)) ?_
   rintro r m2 ⟨rfl,⟨L',hL'⟩,hk2⟩
   have q1 := hk2 k _ nbk.symm (by rw [upd_ne _ _ nbk.symm,upd_same])
   have q5 := hk2 b5 _ nb5.symm (by rw [upd_ne _ _ nb5.symm,upd_ne _ _ k5.symm]; exact j5)
   have qs : ∀ j y,m1 j = some y → j ≠ k → m2 j = some y := fun j y hy hj => by
    have nj : j ≠ b := ne_none hy hb1
    exact hk2 j y nj (by rw [upd_ne _ _ nj,upd_ne _ _ hj]; exact hy)
   simp(maxSteps:=9^9)only[↓VX,VQ,seval,q1,q5,k5,k5.symm]
   refine ⟨fun h0 => ⟨fun h1 => ?_,fun h1 => ?_⟩,fun h0 => ?_⟩
   ·rw [if_pos (by omega)] at hJ'
    refine And.imp id Or.inl (hJ' _ (upd_same _ _ _) (by rw [upd_ne _ _ k5.symm,upd_same]) fun j y hy n1 n2 => ?_)
    rw [upd_ne _ _ n1,upd_ne _ _ n2]; exact qs j y hy n1
   ·rw [if_neg (by omega)] at hJ'
    refine And.imp id Or.inl (hJ' _ (upd_same _ _ _) (by rw [upd_ne _ _ k5.symm]; exact q5) fun j y hy n1 n2 => ?_)
    rw [upd_ne _ _ n1]; exact qs j y hy n1
   ·rw [if_pos (by omega)] at hJ'
    refine And.imp id Or.inl (hJ' _ (upd_same _ _ _) (by rw [upd_ne _ _ k5.symm,upd_same]) fun j y hy n1 n2 => ?_)
    rw [upd_ne _ _ n1,upd_ne _ _ n2]; exact qs j y hy n1
  ·obtain ⟨pre,hpre,j1,j5,js⟩ := (hJdef _ _).1 hJ
   simp only [not_or] at hb
   refine (hJdef _ _).2 ⟨pre,hpre,by rw [upd_ne _ _ (Ne.symm hb.1)]; exact j1,by rw [upd_ne _ _ (Ne.symm hb.2)]; exact j5,fun j y hy => ?_⟩
   rw [upd_ne _ _ ?_]
   ·exact js j y hy
   ·rintro rfl
    simp [upd,hb.1,hb.2] at hb0
    rw [hb0] at hy; cases hy
 refine ACall.mono (hc1 k _ _ _ _ hyok ?_ ?_) ?_
 ·rintro j (rfl | rfl)
  ·simp [upd]
  ·simp [upd,k5.symm]
 ·refine (hJdef _ _).2 ⟨[],rfl,upd_same _ _ _,?_,fun j y hy => ?_⟩
  ·simp [upd,k5.symm,leastOf]
  ·simp [upd,ne_none hy hk0,ne_none hy hb5]; exact hy
 ·rintro r m' (hJ | hF)
  ·obtain ⟨pre,hpre,j1,j5,js⟩ := (hJdef _ _).1 hJ
   rw [List.append_nil] at hpre
   subst hpre
   rw [← hw] at j5
   clear hyok hc1
   simp(maxSteps:=9^9)only[↓VX,VQ,seval,j1,j5,k5,k5.symm]
   intro j y hy
   rw [if_neg (ne_none hy hk0)]
   exact js j y hy
  ·exact hF.elim
theorem mends_p (nm : ByteArray) (ps : List RPart) (hps : partsE ps = 0) (h5 : ps.length ≤ 5) (l : List ByteArray) (hl15 : l.length ≤ 15) :
  PCall Tryz.prog 56 [.eptr (seenF nm (.slice 3 (ps.map partA)) (roomsOf ps)),strs l] (.int .i64 (mendsOf ps l)) := fun m =>
 ACall.forget ((mends_c nm ps hps h5 l hl15 m).mono fun _ _ ⟨h1,h2⟩ => ⟨m,h2,h1,rfl⟩)
theorem letE_len {l : List ByteArray} (h : letE l = 0) : l.length ≤ 15 ∧ wordsB l = true := by
 unfold letE at h
 split at h
 ·cases h
 ·split at h
  ·exact ⟨by omega,by assumption⟩
  ·cases h
theorem mend_c (s : RShelf) (hs : shelfFit s) (n : Int) (l : List ByteArray) (hl : sizesFit l) : PCall Tryz.prog 13 [shelfA s,.int .i64 n,strs l] (.tuple [.int .i64 (mendR s n l).1,.int .i64 (mendR s n l).2]) := by
 intro m
 have hen := letenter_c s hs n
 have hle := lettered_c l hl
 obtain ⟨E,hE⟩ : ∃ E,E = mendR s n l := ⟨_,rfl⟩
 rw [← hE]
 unfold mendR enterL at hE
 have hok := enterS_ok (s := s) (n := n)
 have h15 := letE_len (l := l)
 unfold enterA at hen
 obtain ⟨a,ha⟩ : ∃ a,a = enterS s n := ⟨_,rfl⟩
 rw [← ha] at hen hE hok
 obtain ⟨e,hee⟩ : ∃ e,e = letE l := ⟨_,rfl⟩
 rw [← hee] at hle hE h15
 have hms := fun (h0 : a = 0) (h1 : e = 0) => mends_p (s.forms[n.toNat]!).name (s.forms[n.toNat]!).parts (checkS_parts (hok h0).1 (hok h0).2.2).1 (checkS_parts (hok h0).1 (hok h0).2.2).2.1 l (h15 h1).1
 simp only [shelfA,shelfL,formA_eq,seenA,seenF,strs] at hen hle hms ⊢
 by_cases h0 : a = 0
 ·have ea : (if a ≠ 0 then a else e) = e := if_neg (fun q => q h0)
  rw [ea] at hE
  rw [if_neg (fun q => q h0)] at hen
  have hms := hms h0
  by_cases h1 : e = 0
  ·rw [if_neg (fun q => q h1)] at hE
   have hms2 := hms h1
   subst h1
   (refine acall_intro (E := env fun _ => .imm) (envOk _) rfl Tryz.func13 rfl Tryz.call13 (by kernel_rfl) (by simp [Tryz.ntmps13]) ?_; simp only [Tryz.f13];  simp(maxSteps:=9^9)only[↓VX,VQ,seval])
   (refine ACall.pure (hen) ?_; try simp(maxSteps:=9^9)only[↓VX,VQ,seval])
   (refine ACall.pure (hle) ?_; try simp(maxSteps:=9^9)only[↓VX,VQ,seval])
   (refine ACall.pure (hms2) ?_; try simp(maxSteps:=9^9)only[↓VX,VQ,seval])
   rw [hE]
  ·rw [if_pos h1] at hE
   have e1 : (e = 0) = False := eq_false h1
   (refine acall_intro (E := env fun _ => .imm) (envOk _) rfl Tryz.func13 rfl Tryz.call13 (by kernel_rfl) (by simp [Tryz.ntmps13]) ?_; simp only [Tryz.f13];  simp(maxSteps:=9^9)only[↓VX,VQ,seval])
   (refine ACall.pure (hen) ?_; try simp(maxSteps:=9^9)only[↓VX,VQ,seval])
   (refine ACall.pure (hle) ?_; try simp(maxSteps:=9^9)only[↓VX,VQ,seval])
   simp(maxSteps:=9^9)only[↓VX,VQ,seval,e1]
   rw [hE]
 ·rw [if_pos h0] at hen
  have e1 : (a = 0) = False := eq_false h0
  simp only [ne_eq,e1,not_false_eq_true,if_true] at hE
  (refine acall_intro (E := env fun _ => .imm) (envOk _) rfl Tryz.func13 rfl Tryz.call13 (by kernel_rfl) (by simp [Tryz.ntmps13]) ?_; simp only [Tryz.f13];  simp(maxSteps:=9^9)only[↓VX,VQ,seval])
  (refine ACall.pure (hen) ?_; try simp(maxSteps:=9^9)only[↓VX,VQ,seval])
  simp(maxSteps:=9^9)only[↓VX,VQ,seval,e1]
  rw [hE]
end Go.Proofs.YtdmejgfcaacdoaaGreat.Abs
