/- Lemmas for the statements of this seat (X24): they hold without conditions beyond those that each one states. -/
import Derived.Test.YtdmejgfcaacdoaaGreatX23
import Derived.Test.YtdmejgfcaacdoaaGreatX17
/- Contracts: Nearest. -/
namespace Go.Proofs.YtdmejgfcaacdoaaGreat.Abs
set_option linter.unusedSimpArgs false
set_option maxHeartbeats 4000000
set_option maxRecDepth 100000
open Go Go.RowKit Go.Proofs
theorem mends_nonneg {ps : List RPart} (h : partsE ps = 0) (l : List ByteArray) : 0 ≤ mendsOf ps l := by
 have hne := countsOf_ne h
 unfold mendsOf
 cases hc : countsOf (roomsOf ps) with
 | nil => exact absurd hc hne
 | cons a t =>
  have h0 : ∀ (t : List Nat) (b : Int),0 ≤ b → 0 ≤ t.foldl (fun (b : Int) (x : Nat) => min b x) b := by
   intro t
   induction t with
   | nil => intro b hb; exact hb
   | cons x t ih => intro b hb; exact ih _ (by show 0 ≤ min b (x : Int); omega)
  exact h0 _ _ (by omega)
def atStep (x : Int × Int × Int) (m : Int) : Int × Int × Int := if m < x.2.1 then (x.2.2,m,x.2.2 + 1) else (x.1,x.2.1,x.2.2 + 1)
theorem leastBy_snoc (v : Int → Int) (l : List Int) (x : Int) : leastBy v (l ++ [x]) = if 0 ≤ v x ∧ ((leastBy v l).2 < 0 ∨ v x < (leastBy v l).2) then (x,v x) else leastBy v l := by
 unfold leastBy; rw [List.foldl_append]; rfl
theorem leastBy_step (v : Nat → Int) (hv : ∀ i,0 ≤ v i) : ∀ n : Nat,0 ≤ (leastBy (fun x => v x.toNat) ((List.range (n + 1)).map fun i : Nat => (i : Int))).2 ∧
  ((List.range' 1 n).map v).foldl atStep (0,v 0,1) = ((leastBy (fun x => v x.toNat) ((List.range (n + 1)).map fun i : Nat => (i : Int))).1,(leastBy (fun x => v x.toNat) ((List.range (n + 1)).map fun i : Nat => (i : Int))).2,(n : Int) + 1)
 | 0 => by
  have h0 := hv 0
  have e : leastBy (fun x => v x.toNat) ((List.range (0 + 1)).map fun i : Nat => (i : Int)) = (0,v 0) := by
   show (if 0 ≤ v 0 ∧ ((-1 : Int) < 0 ∨ v 0 < -1) then ((0 : Int),v 0) else (0,-1)) = _
   rw [if_pos ⟨h0,.inl (by decide)⟩]
  rw [e]
  exact ⟨h0,rfl⟩
 | n + 1 => by
  obtain ⟨h1,h2⟩ := leastBy_step v hv n
  have hx := hv (n + 1)
  have e1 : (List.range (n + 1 + 1)).map (fun i : Nat => (i : Int)) = (List.range (n + 1)).map (fun i : Nat => (i : Int)) ++ [((n + 1 : Nat) : Int)] := by
   rw [List.range_succ,List.map_append]; rfl
  have e2 : (List.range' 1 (n + 1)).map v = (List.range' 1 n).map v ++ [v (n + 1)] := by
   rw [List.range'_1_concat,List.map_append,Nat.add_comm 1 n]; rfl
  have e3 : v (((n + 1 : Nat) : Int)).toNat = v (n + 1) := by rw [Int.toNat_natCast]
  rw [e1,e2,leastBy_snoc,List.foldl_append,h2,e3]
  obtain ⟨B,hB⟩ : ∃ B,B = leastBy (fun x => v x.toNat) ((List.range (n + 1)).map fun i : Nat => (i : Int)) := ⟨_,rfl⟩
  rw [← hB] at h1 ⊢
  show _ ∧ atStep (B.1,B.2,(n : Int) + 1) (v (n + 1)) = _
  unfold atStep
  by_cases q : v (n + 1) < B.2
  ·rw [if_pos q,if_pos ⟨hx,.inr q⟩]
   exact ⟨hx,by simp⟩
  ·rw [if_neg q,if_neg (fun e => by omega)]
   exact ⟨h1,by simp⟩
theorem leastBy_at (v : Nat → Int) (hv : ∀ i,0 ≤ v i) (n : Nat) : leastBy (fun x => v x.toNat) ((List.range (n + 1)).map fun i : Nat => (i : Int)) = leastAt ((List.range (n + 1)).map v) := by
 have h := (leastBy_step v hv n).2
 have e : (List.range (n + 1)).map v = v 0 :: (List.range' 1 n).map v := by
  rw [List.range_eq_range',List.range'_succ]; rfl
 rw [e]
 show _ = (fun x : Int × Int × Int => (x.1,x.2.1)) (((List.range' 1 n).map v).foldl atStep (0,v 0,1))
 rw [h]
theorem near1_c (s : RShelf) (hs : (checkS s).2.2 = 0) (l : List ByteArray) (hl15 : l.length ≤ 15) (i : Nat) (hi : i < s.forms.length) : PCall Tryz.prog 96 [.int .i64 i,.eptr (shelfL s),.eptr [strs l]] (.int .i64 (mendsOf (s.forms[i]!).parts l)) := by
 intro m
 have hlk := letlook_p (s.forms[i]!) (by have := (checkS_parts hs hi).2.1; omega)
 have hms := mends_p (s.forms[i]!).name (s.forms[i]!).parts (checkS_parts hs hi).1 (checkS_parts hs hi).2.1 l hl15
 simp only [shelfL,formA_eq,seenF,strs] at hlk hms ⊢
 (refine acall_intro (E := env fun _ => .imm) (envOk _) rfl Tryz.func96 rfl Tryz.call96 (by kernel_rfl) (by simp [Tryz.ntmps96]) ?_; simp only [Tryz.f96];  simp(maxSteps:=9^9)only[↓VX,VQ,seval])
 (refine adraw (by first | exact envOk _ | exact envCOk _ _ _) mixed [⟨false,false,0⟩,⟨false,false,0⟩,⟨false,false,0⟩,⟨false,false,0⟩,⟨false,false,0⟩,⟨false,false,0⟩,⟨false,false,0⟩,⟨false,false,0⟩,⟨false,false,0⟩] (by kernel_rfl) ?_; show vcOpsD _ _ _ (_ :: _) _ _)
 simp(maxSteps:=9^9)only[↓VX,VQ,seval]
 refine ⟨⟨by omega,hi⟩,?_⟩
 (refine ⟨_,.inl (hlk),?_⟩; try simp(maxSteps:=9^9)only[↓VX,VQ,seval])
 (refine ⟨_,.inl (hms),?_⟩; try simp(maxSteps:=9^9)only[↓VX,VQ,seval])
theorem least_m (g : FuncId) (caps : List AV) (v : Int → Int) (l : List Int) (b cap : Nat) (J : Mem → Prop) (hb : ∀ m,J m → m b = some (.cells (l.map (AV.int .i64)))) (h : ∀ x ∈ l,∀ m,J m → ACall Tryz.prog g ([.int .i64 x] ++ caps) m fun r m' => r = .int .i64 (v x) ∧ J m') (hlen : l.length ≤ 1000000) (m : Mem) (hJ : J m) :
  ACall Tryz.prog 95 [.mslice b 0 l.length cap,.fn (.func g) [] caps] m fun r m' => r = .tuple [.int .i64 (leastBy v l).1,.int .i64 (leastBy v l).2] ∧ J m' := by
 simp only [List.cons_append,List.nil_append] at h ⊢
 (refine acall_intro (E := env fun _ => .imm) (envOk _) rfl Tryz.func95 rfl Tryz.call95 (by kernel_rfl) (by simp [Tryz.ntmps95]) ?_; simp only [Tryz.f95];  simp(maxSteps:=9^9)only[↓VX,VQ,seval])
 repeat'(first|intro _|apply And.intro)
 refine aloop (envOk _) (fun q : Nat × Mem => ⟨[(1,.v (.fn (.func g) [] caps)),(4,.v (.int .i64 (leastBy v (l.take q.1)).1)),(5,.v (.int .i64 (leastBy v (l.take q.1)).2)),(9,.v (.mslice b 0 l.length cap)),(10,.v (.int .i64 l.length)),(11,.v (.int .i64 q.1))],[],[],q.2⟩)
  (fun q => q.1 ≤ l.length ∧ J q.2) (fun q => l.length - q.1) (0,m) (fun _ => rfl) ⟨Nat.zero_le _,hJ⟩ (by (simp only [FE,↓FP,seval]); try simp [leastBy]) ?_
 rintro ⟨k,m1⟩ ⟨hk,hJ1⟩
 dsimp only at hk hJ1
 by_cases hlt : k < l.length
 ·have hs := leastBy_succ v hlt
  have hc := h l[k]! (by rw [getD_any hlt]; exact List.getElem_mem hlt) m1 hJ1
  have hm1 := hb m1 hJ1
  have hdr : (l.map (AV.int .i64)).drop k = AV.int .i64 l[k]! :: (l.map (AV.int .i64)).drop (k + 1) := by
   rw [List.drop_eq_getElem_cons (by simpa using hlt),List.getElem_map,getD_any hlt]
  obtain ⟨B,hB⟩ : ∃ B,leastBy v (l.take k) = B := ⟨_,rfl⟩
  obtain ⟨V,hV⟩ : ∃ V,v l[k]! = V := ⟨_,rfl⟩
  rw [hB,hV] at hs
  rw [hV] at hc
  obtain ⟨b1,b2⟩ := B
  dsimp only at hs
  have hk' : ((k : Int) < (l.length : Int)) = True := by simp; omega
  simp(maxSteps:=9^9)only[↓VX,VQ,seval,hB,hk',hm1,hdr]
  repeat'(first|intro _|apply And.intro)
  all_goals try first|omega|(simp only[LL];omega)|exact nlC (by decide) _|exact nbC rfl
  refine ACall.told hc ?_
  rintro r m2 ⟨rfl,hJ2⟩
  simp(maxSteps:=9^9)only[↓VX,VQ,seval]
  repeat'(first|intro _|apply And.intro)
  all_goals try first|omega|(simp only[LL];omega)|exact nlC (by decide) _|exact nbC rfl
  all_goals
   refine ⟨(k + 1,m2),⟨by dsimp only; omega,hJ2⟩,by dsimp only; omega,?_⟩
   first
   | rw [if_pos (by omega)] at hs
   | rw [if_neg (by omega)] at hs
   (simp only [FE,↓FP,seval])
   simp [hs]
 ·have hke : k = l.length := by omega
  subst hke
  rw [List.take_length]
  simp(maxSteps:=9^9)only[↓VX,VQ,seval]
  repeat'(first|intro _|apply And.intro)
  all_goals try first|omega|(simp only[LL];omega)|exact nlC (by decide) _|exact nbC rfl
  all_goals first | exact ⟨rfl,hJ1⟩ | skip
theorem setRange (n k : Nat) (hk : k < n) : (((List.range k).map fun i : Nat => AV.int .i64 (i : Int)) ++ List.replicate (n - k) (AV.int .i64 0)).set k (AV.int .i64 (k : Int)) = ((List.range (k + 1)).map fun i : Nat => AV.int .i64 (i : Int)) ++ List.replicate (n - (k + 1)) (AV.int .i64 0) := by
 rw [List.set_append_right _ _ (by simp),List.range_succ,List.map_append,List.append_assoc]
 congr 1
 rw [List.length_map,List.length_range,Nat.sub_self,show n - k = (n - (k + 1)) + 1 by omega,List.replicate_succ]
 rfl
theorem near_c (s : RShelf) (hs : shelfFit s) (l : List ByteArray) (hl : sizesFit l) : PCall Tryz.prog 36 [shelfA s,strs l] (.tuple [.int .i64 (nearestR s l).1,.int .i64 (nearestR s l).2.1,.int .i64 (nearestR s l).2.2]) := by
 intro m
 have hc := letcheck_c s hs
 have hle := lettered_c l hl
 obtain ⟨E,hE⟩ : ∃ E,E = nearestR s l := ⟨_,rfl⟩
 rw [← hE]
 unfold nearestR at hE
 have h15 := letE_len (l := l)
 have hmany := fun h => checkS_many (s := s) h
 have hps := fun k (h : (checkS s).2.2 = 0) (hk : k < s.forms.length) => checkS_parts (s := s) h hk
 have hn1 := fun h h15 i hi => near1_c s h l h15 i hi
 obtain ⟨c,hcc⟩ : ∃ c,c = checkS s := ⟨_,rfl⟩
 rw [← hcc] at hc hE hmany hps hn1
 obtain ⟨e,hee⟩ : ∃ e,e = letE l := ⟨_,rfl⟩
 rw [← hee] at hle hE h15
 simp only [shelfA,shelfL,strs] at hc hle hn1 ⊢
 by_cases h0 : c.2.2 = 0
 ·rw [if_neg (fun q => q h0)] at hE
  by_cases h1 : e = 0
  ·rw [if_neg (fun q => q h1)] at hE
   by_cases h2 : s.forms.length = 0
   ·rw [if_pos h2] at hE
    have e2 : ((s.forms.length : Int) = 0) = True := by simp [h2]
    subst h1
    (refine acall_intro (E := envC (modeAt [7] []) false []) (envCOk _ _ _) rfl Tryz.func36 rfl Tryz.call36 (by kernel_rfl) (by simp [Tryz.ntmps36]) ?_; simp only [Tryz.f36];  simp(maxSteps:=9^9)only[↓VX,VQ,seval,e2,h0])
    (refine ACall.pure (hc) ?_; try simp(maxSteps:=9^9)only[↓VX,VQ,seval])
    simp(maxSteps:=9^9)only[↓VX,VQ,seval,h0]
    (refine ACall.pure (hle) ?_; try simp(maxSteps:=9^9)only[↓VX,VQ,seval])
    simp(maxSteps:=9^9)only[↓VX,VQ,seval,e2]
    intro _
    rw [hE]
   ·rw [if_neg h2] at hE
    have e2 : ((s.forms.length : Int) = 0) = False := by simp; exact fun e => h2 (by rw [e]; rfl)
    have h4 := (hmany h0).1
    have hn1 := fun i hi => hn1 h0 (h15 h1).1 i hi
    subst h1
    refine ACall.forget ?_
    (refine acall_intro (E := envC (modeAt [] [31]) false []) (envCOk _ _ _) rfl Tryz.func36 rfl Tryz.call36 (by kernel_rfl) (by simp [Tryz.ntmps36]) ?_; simp only [Tryz.f36];  simp(maxSteps:=9^9)only[↓VX,VQ,seval,e2,h0])
    (refine ACall.pure (hc) ?_; try simp(maxSteps:=9^9)only[↓VX,VQ,seval])
    simp(maxSteps:=9^9)only[↓VX,VQ,seval,h0]
    (refine ACall.pure (hle) ?_; try simp(maxSteps:=9^9)only[↓VX,VQ,seval])
    simp(maxSteps:=9^9)only[↓VX,VQ,seval,e2]
    repeat'(first|intro _|apply And.intro)
    all_goals try first|omega|(simp only[LL];omega)|exact nlC (by decide) _|exact nbC rfl
    rename_i b hb _
    refine aloop (envCOk _ _ _) (fun k : Nat => ⟨[(2,.v (.eptr [.int .i64 s.width,.slice 2 (s.forms.map formA)])),(3,.v (.eptr [.slice 1 (l.map AV.str)])),(7,.v (.mslice b 0 s.forms.length s.forms.length)),(34,.v (.int .i64 s.forms.length)),(35,.v (.int .i64 k))],[],[],
      upd m b (some (.cells (((List.range k).map fun i : Nat => AV.int .i64 (i : Int)) ++ List.replicate (s.forms.length - k) (AV.int .i64 0))))⟩)
     (fun k => k ≤ s.forms.length) (fun k => s.forms.length - k) 0 (fun _ => rfl) (by simp) (by (simp only [FE,↓FP,seval]); simp) ?_
    intro k hk
    by_cases hlt : k < s.forms.length
    ·have hk' : ((k : Int) < (s.forms.length : Int)) = True := by simp; omega
     have hst := setRange s.forms.length k hlt
     rw [List.set_eq_take_append_cons_drop,if_pos (by simp; omega)] at hst
     simp(maxSteps:=9^9)only[↓VX,VQ,seval,hk']
     repeat'(first|intro _|apply And.intro)
     all_goals try first|omega|(simp only[LL];omega)|exact nlC (by decide) _|exact nbC rfl
     ·simp; omega
     ·refine ⟨k + 1,by omega,by dsimp only; omega,?_⟩
      (simp only [FE,↓FP,seval])
      refine ⟨by simp,?_⟩
      rw [upd_upd,← hst,List.append_assoc]
      rfl
    ·have hke : k = s.forms.length := by omega
     subst hke
     obtain ⟨n,hn⟩ : ∃ n,s.forms.length = n + 1 := ⟨s.forms.length - 1,by omega⟩
     have hv := leastBy_at (fun i => mendsOf (s.forms[i]!).parts l) (fun i => by
      by_cases hi : i < s.forms.length
      ·exact mends_nonneg (hps i h0 hi).1 l
      ·rw [getElem!_neg s.forms i hi]
       exact mends_nonneg (ps := []) rfl l) n
     have hmp : (List.range (n + 1)).map (fun i => mendsOf (s.forms[i]!).parts l) = s.forms.map fun f => mendsOf f.parts l := by
      refine List.ext_getElem (by simp [hn]) fun i h1' h2' => ?_
      simp only [List.getElem_map,List.getElem_range]
      rw [List.length_map] at h2'
      rw [getElem!_pos s.forms i h2']
     rw [hmp,← hn] at hv
     have hls := least_m 96 [.eptr [.int .i64 s.width,.slice 2 (s.forms.map formA)],.eptr [.slice 1 (l.map AV.str)]] (fun x => mendsOf (s.forms[x.toNat]!).parts l) ((List.range s.forms.length).map fun i : Nat => (i : Int)) b s.forms.length
      (fun m1 => m1 = upd m b (some (.cells (((List.range s.forms.length).map fun i : Nat => AV.int .i64 (i : Int)) ++ List.replicate (s.forms.length - s.forms.length) (AV.int .i64 0))))) (fun m1 e => by rw [e,upd_same]; simp) (fun x hx m1 e => ?_) (by simp; omega) _ rfl
     ·rw [List.length_map,List.length_range] at hls
      simp(maxSteps:=9^9)only[↓VX,VQ,seval]
      repeat'(first|intro _|apply And.intro)
      all_goals try first|omega|(simp only[LL];omega)|exact nlC (by decide) _|exact nbC rfl
      refine ACall.told hls ?_
      rintro r m2 ⟨rfl,rfl⟩
      simp(maxSteps:=9^9)only[↓VX,VQ,seval]
      refine ⟨m,fun j x hx => ?_,?_⟩
      ·rw [if_neg (ne_none hx hb)]; exact hx
      ·rw [hE,hv]
       exact ⟨rfl,rfl⟩
     ·obtain ⟨i,hi,rfl⟩ := List.mem_map.1 hx
      rw [List.mem_range] at hi
      rw [Int.toNat_natCast]
      exact (hn1 i hi m1).mono fun r m' ⟨q1,q2⟩ => ⟨q1,by rw [q2,e]⟩
  ·rw [if_pos h1] at hE
   have e1 : (e = 0) = False := eq_false h1
   (refine acall_intro (E := envC (modeAt [7] []) false []) (envCOk _ _ _) rfl Tryz.func36 rfl Tryz.call36 (by kernel_rfl) (by simp [Tryz.ntmps36]) ?_; simp only [Tryz.f36];  simp(maxSteps:=9^9)only[↓VX,VQ,seval,h0])
   (refine ACall.pure (hc) ?_; try simp(maxSteps:=9^9)only[↓VX,VQ,seval])
   simp(maxSteps:=9^9)only[↓VX,VQ,seval,h0]
   (refine ACall.pure (hle) ?_; try simp(maxSteps:=9^9)only[↓VX,VQ,seval])
   simp(maxSteps:=9^9)only[↓VX,VQ,seval,e1]
   rw [hE]
 ·rw [if_pos h0] at hE
  have e0 : (c.2.2 = 0) = False := eq_false h0
  (refine acall_intro (E := envC (modeAt [7] []) false []) (envCOk _ _ _) rfl Tryz.func36 rfl Tryz.call36 (by kernel_rfl) (by simp [Tryz.ntmps36]) ?_; simp only [Tryz.f36];  simp(maxSteps:=9^9)only[↓VX,VQ,seval,e0])
  (refine ACall.pure (hc) ?_; try simp(maxSteps:=9^9)only[↓VX,VQ,seval])
  simp(maxSteps:=9^9)only[↓VX,VQ,seval,e0]
  rw [hE]
def rowsW (l : List (List ByteArray)) : AV := .slice 1 (l.map strs)
def rowsFit (l : List (List ByteArray)) : Prop := ∀ r ∈ l,sizesFit r
def fillE (r : Int × Int) (f : List ByteArray) : Int := if offP r.1 r.2 f.length = true then 7 else if wordsB f = false then 6 else 0
theorem fillsE_cons (r : Int × Int) (rs : List (Int × Int)) (f : List ByteArray) (fs : List (List ByteArray)) : fillsE (r :: rs) (f :: fs) = if fillE r f ≠ 0 then fillE r f else fillsE rs fs := by
 unfold fillE
 rw [fillsE]
 by_cases q : offP r.1 r.2 f.length = true
 ·rw [if_pos q,if_pos q,if_pos (by decide)]
 ·rw [if_neg q,if_neg q]
  by_cases q2 : wordsB f = false
  ·rw [if_pos q2,if_pos q2,if_pos (by decide)]
  ·rw [if_neg q2,if_neg q2,if_neg (by decide)]
theorem fillsE_at : ∀ {rs : List (Int × Int)} {fs : List (List ByteArray)} {k : Nat},rs.length = fs.length → k < fs.length → (∀ j,j < k → fillE rs[j]! fs[j]! = 0) → fillE rs[k]! fs[k]! ≠ 0 → fillsE rs fs = fillE rs[k]! fs[k]!
 | [],[],_,_,h,_,_ => by cases h
 | [],_ :: _,_,h,_,_,_ => by cases h
 | _ :: _,[],_,h,_,_,_ => by cases h
 | r :: rs,f :: fs,0,_,_,_,hne => by
  have hne' : fillE r f ≠ 0 := hne
  rw [fillsE_cons,if_pos hne']; rfl
 | r :: rs,f :: fs,k + 1,hl,hk,hp,hne => by
  rw [fillsE_cons,if_neg (by simpa using hp 0 (by omega)),fillsE_at (k := k) (by simpa using hl) (by simpa using hk) (fun j hj => by simpa using hp (j + 1) (by omega)) (by simpa using hne)]
  simp
theorem fillsE_zero : ∀ {rs : List (Int × Int)} {fs : List (List ByteArray)},rs.length = fs.length → (∀ j,j < fs.length → fillE rs[j]! fs[j]! = 0) → fillsE rs fs = 0
 | [],[],_,_ => rfl
 | [],_ :: _,h,_ => by cases h
 | _ :: _,[],h,_ => by cases h
 | r :: rs,f :: fs,hl,hp => by
  rw [fillsE_cons,if_neg (by simpa using hp 0 (by simp))]
  exact fillsE_zero (by simpa using hl) fun j hj => by simpa using hp (j + 1) (by simpa using hj)
theorem builtOf_snoc : ∀ (ps : List RPart) (p : RPart) (fs : List (List ByteArray)),builtOf (ps ++ [p]) fs = builtOf ps fs ++ (if p.words = [] then (fs.drop (roomsOf ps).length).headD [] else p.words)
 | [],p,m => by
  simp only [List.nil_append,builtOf,roomsOf,List.length_nil,List.drop_zero]
  split <;> simp
 | q :: ps,p,m => by
  rw [List.cons_append,builtOf,builtOf,roomsOf]
  by_cases e : q.words = []
  ·rw [if_pos e,if_pos e,if_pos e,builtOf_snoc ps p,List.length_cons,List.append_assoc]
   have : List.drop ((roomsOf ps).length + 1) m = List.drop (roomsOf ps).length m.tail := by cases m <;> simp
   rw [this]
  ·rw [if_neg e,if_neg e,if_neg e,builtOf_snoc ps p,List.append_assoc]
theorem built_length : ∀ {ps : List RPart} {fs : List (List ByteArray)},(∀ p ∈ ps,p.words.length ≤ 3) → (∀ f ∈ fs,f.length ≤ 3) → (builtOf ps fs).length ≤ 3 * ps.length
 | [],_,_,_ => by simp [builtOf]
 | p :: ps,m,hp,hm => by
  rw [builtOf,List.length_cons]
  have ih1 := built_length (ps := ps) (fs := m) (fun q hq => hp q (List.mem_cons_of_mem _ hq)) hm
  have ih2 := built_length (ps := ps) (fs := m.tail) (fun q hq => hp q (List.mem_cons_of_mem _ hq)) (fun n hn => hm n (List.mem_of_mem_tail hn))
  have h0 := hp p List.mem_cons_self
  split
  ·rw [List.length_append]
   have : (m.headD []).length ≤ 3 := by
    cases m with
    | nil => exact Nat.zero_le _
    | cons a t => exact hm a List.mem_cons_self
   omega
  ·rw [List.length_append]; omega
theorem make_c (s : RShelf) (hs : shelfFit s) (n : Int) (fs : List (List ByteArray)) (hf : rowsFit fs) : PCall Tryz.prog 24 [shelfA s,.int .i64 n,rowsW fs] (.tuple [strs (makeR s n fs).1,.int .i64 (makeR s n fs).2]) := by
 intro m
 have hen := letenter_c s hs n
 obtain ⟨E,hE⟩ : ∃ E,E = makeR s n fs := ⟨_,rfl⟩
 rw [← hE]
 unfold makeR at hE
 have hok := enterS_ok (s := s) (n := n)
 unfold enterA at hen
 obtain ⟨a,ha⟩ : ∃ a,a = enterS s n := ⟨_,rfl⟩
 rw [← ha] at hen hE hok
 simp only [shelfA,shelfL,seenA,seenF,rowsW] at hen ⊢
 by_cases h0 : a = 0
 ·rw [if_neg (fun q => q h0)] at hen hE
  obtain ⟨o1,o2,o3⟩ := hok h0
  obtain ⟨p1,p2,p3⟩ := checkS_parts o1 o3
  have hrm := rooms_le (s.forms[n.toNat]!).parts
  have hpr := parts_rooms p1
  obtain ⟨_,hpw⟩ := parts_fit p1 p2
  generalize (s.forms[n.toNat]!).name = nm at *
  generalize (s.forms[n.toNat]!).parts = ps at *
  have hof := fun (lo hi x : Int) => letoff_c lo hi [x]
  have hwd := fun l (h : sizesFit l) => letworded_c l h
  simp only [ints,List.map_cons,List.map_nil,List.any_cons,List.any_nil,Bool.or_false] at hof
  simp only [strs] at hwd
  by_cases h1 : fs.length = (roomsOf ps).length
  ·rw [if_neg (fun q => q h1)] at hE
   have e1 : ((fs.length : Int) = ((roomsOf ps).length : Int)) = True := by simp; omega
   (refine acall_intro (E := envC (modeAt [13] []) false []) (envCOk _ _ _) rfl Tryz.func24 rfl Tryz.call24 (by kernel_rfl) (by simp [Tryz.ntmps24]) ?_; simp only [Tryz.f24];  simp(maxSteps:=9^9)only[↓VX,VQ,seval,e1])
   (refine ACall.pure (hen) ?_; try simp(maxSteps:=9^9)only[↓VX,VQ,seval])
   simp(maxSteps:=9^9)only[↓VX,VQ,seval,e1]
   repeat'(first|intro _|apply And.intro)
   all_goals try first|omega|(simp only[LL];omega)|exact nlC (by decide) _|exact nbC rfl
   refine aloop (envCOk _ _ _) (fun k : Nat => ⟨[(2,.v (.slice 1 (fs.map strs))),(6,.v (.slice 1 [])),(8,.v (.eptr [.str nm,.slice 3 (ps.map partA),.slice 2 ((roomsOf ps).map spanR)])),(33,.v (.slice 1 (fs.map strs))),(34,.v (.int .i64 fs.length)),(35,.v (.int .i64 k))],[6],[],m⟩)
    (fun k => k ≤ fs.length ∧ ∀ j,j < k → fillE (roomsOf ps)[j]! fs[j]! = 0) (fun k => fs.length - k) 0 (fun _ => rfl) ⟨Nat.zero_le _,fun j hj => absurd hj (Nat.not_lt_zero _)⟩ (by (simp only [FE,↓FP,seval]); try simp) ?_
   rintro k ⟨hk,hp⟩
   by_cases hlt : k < fs.length
   ·have hk' : ((k : Int) < (fs.length : Int)) = True := by simp; omega
    have hkr : k < (roomsOf ps).length := by omega
    have hat := fillsE_at h1.symm hlt hp
    have hof := hof (roomsOf ps)[k]!.1 (roomsOf ps)[k]!.2 (fs[k]!).length
    have hwd := hwd (fs[k]!) (hf _ (by rw [getD_any hlt]; exact List.getElem_mem hlt))
    obtain ⟨z,hz⟩ : ∃ z,z = fillE (roomsOf ps)[k]! fs[k]! := ⟨_,rfl⟩
    rw [← hz] at hat
    unfold fillE at hz
    obtain ⟨o,ho⟩ : ∃ o,o = offP (roomsOf ps)[k]!.1 (roomsOf ps)[k]!.2 (fs[k]!).length := ⟨_,rfl⟩
    rw [← ho] at hof hz
    obtain ⟨w,hw⟩ : ∃ w,w = wordsB fs[k]! := ⟨_,rfl⟩
    rw [← hw] at hwd hz
    simp(maxSteps:=9^9)only[↓VX,VQ,seval,hk',strs]
    repeat'(first|intro _|apply And.intro)
    all_goals try first|omega|(simp only[LL];omega)|exact nlC (by decide) _|exact nbC rfl
    (refine adraw (by first | exact envOk _ | exact envCOk _ _ _) mixed [⟨false,false,0⟩,⟨false,false,0⟩,⟨false,false,0⟩,⟨false,false,0⟩,⟨false,false,0⟩,⟨false,false,0⟩,⟨false,false,0⟩,⟨false,false,0⟩,⟨false,false,0⟩,⟨false,false,0⟩,⟨false,false,0⟩,⟨false,false,0⟩,⟨false,false,0⟩,⟨false,false,0⟩,⟨false,false,0⟩,⟨false,false,0⟩,⟨false,false,0⟩,⟨false,false,0⟩,⟨false,false,0⟩,⟨false,false,0⟩] (by kernel_rfl) ?_; show vcOpsD _ _ _ (_ :: _) _ _)
    simp(maxSteps:=9^9)only[↓VX,VQ,seval,strs]
    repeat'(first|intro _|apply And.intro)
    all_goals try first|omega|(simp only[LL];omega)|exact nlC (by decide) _|exact nbC rfl
    (refine ⟨_,.inl (hof),?_⟩; try simp(maxSteps:=9^9)only[↓VX,VQ,seval])
    cases o
    ·rw [if_neg (by decide)] at hz
     simp(maxSteps:=9^9)only[↓VX,VQ,seval]
     (refine ACall.pure (hwd) ?_; try simp(maxSteps:=9^9)only[↓VX,VQ,seval])
     cases w
     ·rw [if_pos rfl] at hz
      rw [hz] at hat
      rw [hat (by decide),if_pos (by decide)] at hE
      simp(maxSteps:=9^9)only[↓VX,VQ,seval,Int.reduceEq]
      rw [hE]; rfl
     ·rw [if_neg (by decide)] at hz
      simp(maxSteps:=9^9)only[↓VX,VQ,seval,Int.reduceEq]
      repeat'(first|intro _|apply And.intro)
      all_goals try first|omega|(simp only[LL];omega)|exact nlC (by decide) _|exact nbC rfl
      refine ⟨k + 1,⟨by omega,fun j hj => ?_⟩,by dsimp only; omega,?_⟩
      ·by_cases e : j = k
       ·subst e
        unfold fillE
        rw [← ho,← hw,if_neg (by decide),if_neg (by decide)]
       ·exact hp j (by omega)
      ·(simp only [FE,↓FP,seval])
       simp
    ·rw [if_pos rfl] at hz
     rw [hz] at hat
     rw [hat (by decide),if_pos (by decide)] at hE
     simp(maxSteps:=9^9)only[↓VX,VQ,seval,Int.reduceEq]
     rw [hE]; rfl
   ·have hke : k = fs.length := by omega
    subst hke
    have hz := fillsE_zero h1.symm hp
    rw [if_neg (by simpa using hz)] at hE
    have h3 : ∀ f ∈ fs,f.length ≤ 3 := fun f hf => by
     obtain ⟨j,hj,rfl⟩ := List.getElem_of_mem hf
     have h := hp j hj
     rw [getElem!_pos fs j hj,getElem!_pos (roomsOf ps) j (by omega)] at h
     have hr := hpr (roomsOf ps)[j] (List.getElem_mem (by omega))
     unfold fillE at h
     by_cases q : offP (roomsOf ps)[j].1 (roomsOf ps)[j].2 (fs[j]).length = true
     ·rw [if_pos q] at h; cases h
     ·simp [offP] at q; omega
    simp(maxSteps:=9^9)only[↓VX,VQ,seval,strs]
    repeat'(first|intro _|apply And.intro)
    all_goals try first|omega|(simp only[LL];omega)|exact nlC (by decide) _|exact nbC rfl
    refine aloop (envCOk _ _ _) (fun k : Nat => ⟨[(2,.v (.slice 1 (fs.map strs))),(6,.v (.slice 1 ((builtOf (ps.take k) fs).map AV.str))),(11,.v (.int .i64 (roomsOf (ps.take k)).length)),(70,.v (.slice 3 (ps.map partA))),(71,.v (.int .i64 ps.length)),(72,.v (.int .i64 k))],[6],[],m⟩)
     (fun k => k ≤ ps.length) (fun k => ps.length - k) 0 (fun _ => rfl) (by simp) (by (simp only [FE,↓FP,seval]); try simp [builtOf,roomsOf]) ?_
    intro k hk
    by_cases hlt : k < ps.length
    ·have hk' : ((k : Int) < (ps.length : Int)) = True := by simp; omega
     have hsn := builtOf_snoc (ps.take k) ps[k]! fs
     have hrn := roomsOf_snoc (ps.take k) ps[k]!
     rw [← take_snoc hlt] at hsn hrn
     have hrl := rooms_take_le ps k hlt
     have hpk := hpw ps[k]! (by rw [getD_any hlt]; exact List.getElem_mem hlt)
     have hlen := built_length (ps := ps.take k) (fs := fs) (fun p hp => hpw p (List.mem_of_mem_take hp)) h3
     rw [List.length_take] at hlen
     by_cases he : ps[k]!.words = []
     ·rw [if_pos he] at hsn hrn
      have hrl := hrl he
      have hfr : (roomsOf (ps.take k)).length < fs.length := by omega
      have hd : (fs.drop (roomsOf (ps.take k)).length).headD [] = fs[(roomsOf (ps.take k)).length]! := by
       rw [List.drop_eq_getElem_cons hfr,getElem!_pos fs _ hfr]; rfl
      have h3k := h3 fs[(roomsOf (ps.take k)).length]! (by rw [getD_any hfr]; exact List.getElem_mem hfr)
      rw [hd] at hsn
      simp(maxSteps:=9^9)only[↓VX,VQ,seval,hk',strs,he,List.length_nil,Int.natCast_zero,List.map_nil,List.append_nil]
      repeat'(first|intro _|apply And.intro)
      all_goals try first|omega|(simp only[LL];omega)|exact nlC (by decide) _|exact nbC rfl
      refine ⟨k + 1,by omega,by dsimp only; omega,?_⟩
      (simp only [FE,↓FP,seval])
      rw [hsn,hrn]
      simp
     ·rw [if_neg he] at hsn hrn
      have e3 : (((ps[k]!).words.length : Int) = 0) = False := eq_false fun h => he (List.eq_nil_of_length_eq_zero (by omega))
      simp(maxSteps:=9^9)only[↓VX,VQ,seval,hk',strs,e3]
      repeat'(first|intro _|apply And.intro)
      all_goals try first|omega|(simp only[LL];omega)|exact nlC (by decide) _|exact nbC rfl
      refine ⟨k + 1,by omega,by dsimp only; omega,?_⟩
      (simp only [FE,↓FP,seval])
      rw [hsn,hrn]
      simp
    ·have hke : k = ps.length := by omega
     subst hke
     rw [List.take_length]
     simp(maxSteps:=9^9)only[↓VX,VQ,seval]
     repeat'(first|intro _|apply And.intro)
     all_goals try first|omega|(simp only[LL];omega)|exact nlC (by decide) _|exact nbC rfl
     rw [hE]
  ·rw [if_pos h1] at hE
   have e1 : ((fs.length : Int) = ((roomsOf ps).length : Int)) = False := by simp; omega
   (refine acall_intro (E := envC (modeAt [13] []) false []) (envCOk _ _ _) rfl Tryz.func24 rfl Tryz.call24 (by kernel_rfl) (by simp [Tryz.ntmps24]) ?_; simp only [Tryz.f24];  simp(maxSteps:=9^9)only[↓VX,VQ,seval,e1])
   (refine ACall.pure (hen) ?_; try simp(maxSteps:=9^9)only[↓VX,VQ,seval])
   simp(maxSteps:=9^9)only[↓VX,VQ,seval,e1]
   repeat'(first|intro _|apply And.intro)
   rw [hE]; rfl
 ·rw [if_pos h0] at hen hE
  have e1 : (a = 0) = False := eq_false h0
  (refine acall_intro (E := env fun _ => .imm) (envOk _) rfl Tryz.func24 rfl Tryz.call24 (by kernel_rfl) (by simp [Tryz.ntmps24]) ?_; simp only [Tryz.f24];  simp(maxSteps:=9^9)only[↓VX,VQ,seval])
  (refine ACall.pure (hen) ?_; try simp(maxSteps:=9^9)only[↓VX,VQ,seval])
  simp(maxSteps:=9^9)only[↓VX,VQ,seval,e1]
  rw [hE]; rfl
end Go.Proofs.YtdmejgfcaacdoaaGreat.Abs
