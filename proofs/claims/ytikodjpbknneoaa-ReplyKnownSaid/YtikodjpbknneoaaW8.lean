/- Lemmas for the statements of this seat (W8): they hold without conditions beyond those that each one states. -/
import Derived.Test.YtikodjpbknneoaaW7
import Derived.Test.YtikodjpbknneoaaW2
/- Contracts: truths: one after the other. -/
namespace Go.Proofs.Ytikodjpbknneoaa.Abs
set_option linter.unusedSimpArgs false
set_option maxHeartbeats 4000000
set_option maxRecDepth 100000
open Go Go.RowKit Go.Proofs
structure Keeps (S : Nat → Prop) (m m' : Mem) : Prop where
 get : ∀ b x,¬ S b → m b = some x → m' b = some x
instance {S : Nat → Prop} {m m' : Mem} : CoeFun (Keeps S m m') fun _ => ∀ b x,¬ S b → m b = some x → m' b = some x := ⟨Keeps.get⟩
theorem Keeps.refl (S : Nat → Prop) (m : Mem) : Keeps S m m := ⟨fun _ _ _ h => h⟩
theorem Keeps.trans {S : Nat → Prop} {m m' m'' : Mem} (h : Keeps S m m') (k : Keeps S m' m'') : Keeps S m m'' := ⟨fun b x hb hx => k b x hb (h b x hb hx)⟩
theorem Keeps.sub {S S' : Nat → Prop} {m m' : Mem} (h : Keeps S m m') (hs : ∀ b,S b → S' b) : Keeps S' m m' := ⟨fun b x hb hx => h b x (fun q => hb (hs b q)) hx⟩
theorem Keeps.set {S : Nat → Prop} {m : Mem} {b : Nat} {y : Option Box} (hb : S b) : Keeps S m (upd m b y) := by
 refine ⟨fun k x hk hx => ?_⟩
 rw [upd_ne _ _ (fun e => hk (by rw [e]; exact hb))]; exact hx
structure TB where
 bm : Nat
 f : Nat
 la : Nat
 fi : Nat
 nx : Nat
structure TB.Ok (t : TB) : Prop where
 q1 : t.bm ≠ t.f
 q2 : t.bm ≠ t.la
 q3 : t.bm ≠ t.fi
 q4 : t.bm ≠ t.nx
 q5 : t.f ≠ t.la
 q6 : t.f ≠ t.fi
 q7 : t.f ≠ t.nx
 q8 : t.la ≠ t.fi
 q9 : t.la ≠ t.nx
 q10 : t.fi ≠ t.nx
def TB.has (t : TB) (k : Nat) : Prop := k = t.bm ∨ k = t.f ∨ k = t.la ∨ k = t.fi
structure YTok (h : RHarb) (b bm l : Nat) (S : Nat → Prop) (J : List (List Fate) → Mem → Prop) (F : Mem → Prop) : Prop where
 y : ∀ pre x m,pre.length < 4096 → FOk h x → x ∈ fleetsI h.ships h.lost → loadsOk h b x = true → Known h b bm m → J pre m → AYield Try.prog l [keyA x,loadsV h b x] m fun r m' => Keeps S m m' ∧ ((r = .bool true ∧ J (pre ++ [x]) m') ∨ (r = .bool false ∧ F m'))
 st : ∀ pre m m',J pre m → (∀ k,S k → m' k = m k) → J pre m'
def nextA (h : RHarb) (b : Nat) (t : TB) (l : Nat) : AV := .fn (.func 81) [] [.eptr [.eptr (lookedL h b t.bm)],.ptr t.f 0,.ptr t.la 0,.ptr t.fi 0,.eptr [.fn (.yield l) [] []],.ptr t.nx 0]
structure THold (h : RHarb) (b : Nat) (t : TB) (l : Nat) (p : List Fate) (pre : List (List Fate)) (m : Mem) : Prop where
 f : m t.f = some (.cells (fleetL fun i => p[i]!))
 la : ∃ lf first,m t.la = some (.cells (fleetL fun i => lf[i]!)) ∧ m t.fi = some (.cells [.bool first]) ∧ (first = false → lf.length = h.ships.length ∧ (loadsOk h b lf = true → lf ∈ pre))
 nx : m t.nx = some (.cells [nextA h b t l])
 kn : Known h b t.bm m
theorem next_leaf (h : RHarb) (hh : HOk h) (b : Nat) (hb : b < 2 ^ 32) (t : TB) (ht : t.Ok) {l : Nat} {S : Nat → Prop} {J : List (List Fate) → Mem → Prop} {F : Mem → Prop} (hy : YTok h b t.bm l S J F) (hS : ∀ k,t.has k ∨ k = t.nx → ¬ S k)
  (p : List Fate) (hp : FOk h p) (hin : p ∈ fleetsI h.ships h.lost) (left : Int) (pre : List (List Fate)) (hn : pre.length < 4096) (m : Mem) (hm : THold h b t l p pre m) (hJ : J pre m) :
  ACall Try.prog 81 [.int .i64 h.ships.length,.int .i64 left,.eptr [.eptr (lookedL h b t.bm)],.ptr t.f 0,.ptr t.la 0,.ptr t.fi 0,.eptr [.fn (.yield l) [] []],.ptr t.nx 0] m fun r m' =>
   Keeps (fun k => S k ∨ t.has k) m m' ∧ Known h b t.bm m' ∧ ((r = .bool true ∧ ∃ L,THold h b t l p (pre ++ L) m' ∧ J (pre ++ L) m' ∧ Given h b pre [p] L) ∨ (r = .bool false ∧ F m')) := by
 obtain ⟨hf,⟨lf,first,hla,hfi,hfirst⟩,hnx,hkn⟩ := hm
 have h3 := hh.n
 have hpn := hp.n
 have ht6 := fleetL_take
 have hl6 := fleetL_length
 have hf6 := fleetL_flat
 have hec := eqCells_fleet
 have hef := eqFlat_fleet (fun i => p[i]!) (fun i => lf[i]!)
 have hload := fun m hk => loads_c h hh b hb t.bm p hp m hk
 have hyy := hy.y pre p
 obtain ⟨V,hV,hV4,hVf⟩ : ∃ V,loadsV h b p = .agg V ∧ V.length = 4 ∧ V.all flat = true := ⟨_,rfl,nL_length _ _,rfl⟩
 have hVt : V.take 4 = V := List.take_of_length_le (by omega)
 rw [hV] at hload hyy
 have nS : ∀ k,S k → k ≠ t.bm ∧ k ≠ t.f ∧ k ≠ t.la ∧ k ≠ t.fi ∧ k ≠ t.nx := fun k hk =>
  ⟨fun e => hS k (.inl (.inl e)) hk,fun e => hS k (.inl (.inr (.inl e))) hk,fun e => hS k (.inl (.inr (.inr (.inl e)))) hk,fun e => hS k (.inl (.inr (.inr (.inr e)))) hk,fun e => hS k (.inr e) hk⟩
 obtain ⟨q1,q2,q3,q4,q5,q6,q7,q8,q9,q10⟩ := ht
 simp only [keyA,fleetA] at hload hyy
 simp only [lookedL] at hload ⊢
 (refine acall_intro (E := envC (modeAt [11,13] []) false []) (envCOk _ _ _) rfl Try.func81 rfl Try.call81 (by kernel_rfl) (by simp [Try.ntmps81]) ?_; simp only [Try.f81];  simp(maxSteps:=9^9)only[↓VX,VQ,seval])
 simp(maxSteps:=9^9)only[↓VX,VQ,seval,hf,hla,hfi,ht6,hl6,hf6,hec,eq_self]
 intro _
 refine ⟨hef,?_⟩
 have hm0 : THold h b t l p pre m := ⟨hf,⟨lf,first,hla,hfi,hfirst⟩,hnx,hkn⟩
 refine ⟨fun qe => ⟨fun q0 => ?_,fun q0 => ?_⟩,fun qe => ?_⟩
 ·obtain ⟨e1,e2⟩ := hfirst q0
  rw [feq_eq (by omega) (by omega),decide_eq_true_eq] at qe
  refine ⟨Keeps.refl _ _,hkn,.inl ⟨[],?_⟩⟩
  rw [List.append_nil]
  refine ⟨hm0,hJ,by simp,fun x hx ho => ?_,by simp⟩
  rw [List.mem_singleton.1 hx] at ho ⊢
  rw [List.append_nil,qe]
  rw [qe] at ho
  exact e2 ho
 all_goals
  (refine adraw (by first | exact envOk _ | exact envCOk _ _ _) mixed [⟨true,false,9⟩,⟨false,false,0⟩,⟨false,false,0⟩] (by kernel_rfl) ?_; show vcOpsD _ _ _ (_ :: _) _ _)
  simp(maxSteps:=9^9)only[↓VX,VQ,seval,hf,hla,hfi,ht6,hl6,hf6,hec,eq_self,hidM,isLook,maskM,q5,q6,q8,q5.symm,q6.symm,q8.symm]
  repeat'(first|intro _|apply And.intro)
  all_goals try first|omega|(simp only[LL];omega)|exact nlC (by decide) _|exact nbC rfl
  refine ACall.told (hload _ ?_) ?_
  ·obtain ⟨ls,k1,k2⟩ := hkn
   exact ⟨ls,k1,by rw [upd_ne _ _ q2,upd_ne _ _ q3]; exact k2⟩
  rintro r m2 ⟨hr,hk2,hm2⟩
  have g1 : m2 t.f = some (.cells (fleetL fun i => p[i]!)) := by rw [hm2 _ q1.symm,upd_ne _ _ q5,upd_ne _ _ q6]; exact hf
  have g2 : m2 t.la = some (.cells (fleetL fun i => p[i]!)) := by rw [hm2 _ q2.symm,upd_same]; rfl
  have g3 : m2 t.fi = some (.cells [.bool false]) := by rw [hm2 _ q3.symm,upd_ne _ _ q8.symm,upd_same]
  have g4 : m2 t.nx = some (.cells [nextA h b t l]) := by rw [hm2 _ q4.symm,upd_ne _ _ q9.symm,upd_ne _ _ q10.symm]; exact hnx
  have g5 : ∀ k,S k → m2 k = m k := fun k hk => by
   obtain ⟨n1,n2,n3,n4,n5⟩ := nS k hk
   rw [hm2 _ n1,upd_ne _ _ n3,upd_ne _ _ n4]
  have g6 : Keeps (fun k => S k ∨ t.has k) m m2 := by
   refine ⟨fun k x hk hx => ?_⟩
   have n1 : k ≠ t.bm := fun e => hk (.inr (.inl e))
   have n3 : k ≠ t.la := fun e => hk (.inr (.inr (.inr (.inl e))))
   have n4 : k ≠ t.fi := fun e => hk (.inr (.inr (.inr (.inr e))))
   rw [hm2 _ n1,upd_ne _ _ n3,upd_ne _ _ n4]; exact hx
  have hJ2 := hy.st pre m m2 hJ g5
  rcases hr with ⟨ok,rfl⟩ | ⟨nok,rfl⟩
  ·simp(maxSteps:=9^9)only[↓VX,VQ,seval,hV4,hVf,hVt,g1,hl6,ht6]
   repeat'(first|intro _|apply And.intro)
   all_goals try first|omega|(simp only[LL];omega)|exact nlC (by decide) _|exact nbC rfl
   refine AYield.mono (hyy m2 hn hp hin ok hk2 hJ2) fun r m3 hr => ?_
   obtain ⟨hk3,hr⟩ := hr
   have hkn3 : Known h b t.bm m3 := by
    obtain ⟨ls,k1,k2⟩ := hk2
    exact ⟨ls,k1,hk3 _ _ (fun e => hS _ (.inl (.inl rfl)) e) k2⟩
   have hkk := g6.trans (hk3.sub fun k hk => .inl hk)
   rcases hr with ⟨rfl,hJ3⟩ | ⟨rfl,hF⟩
   ·simp(maxSteps:=9^9)only[↓VX,VQ,seval]
    refine ⟨hkk,hkn3,.inl ⟨[p],⟨?_,⟨p,false,?_,?_,fun _ => ⟨hpn,fun _ => by simp⟩⟩,?_,hkn3⟩,hJ3,fun x hx => by rw [List.mem_singleton.1 hx]; exact ⟨by simp,ok⟩,fun x hx _ => by rw [List.mem_singleton.1 hx]; simp,by simp⟩⟩
    ·exact hk3 _ _ (fun e => hS _ (.inl (.inr (.inl rfl))) e) g1
    ·exact hk3 _ _ (fun e => hS _ (.inl (.inr (.inr (.inl rfl)))) e) g2
    ·exact hk3 _ _ (fun e => hS _ (.inl (.inr (.inr (.inr rfl)))) e) g3
    ·exact hk3 _ _ (fun e => hS _ (.inr rfl) e) g4
   ·simp(maxSteps:=9^9)only[↓VX,VQ,seval]
    exact ⟨hkk,hkn3,.inr hF⟩
  ·simp(maxSteps:=9^9)only[↓VX,VQ,seval]
   refine ⟨g6,hk2,.inl ⟨[],?_⟩⟩
   rw [List.append_nil]
   exact ⟨⟨g1,⟨p,false,g2,g3,fun _ => ⟨hpn,fun e => by rw [nok] at e; cases e⟩⟩,g4,hk2⟩,hJ2,by simp,fun x hx ho => (by rw [List.mem_singleton.1 hx,nok] at ho; cases ho),by simp⟩
theorem madeFl_mono (p : List Fate) (s : RShip) (r : List RShip) (left made : Int) : ∀ {i j : Nat},i ≤ j → (madeFl p s r left made i).length ≤ (madeFl p s r left made j).length := by
 intro i j h
 induction h with
 | refl => exact Nat.le_refl _
 | step _ ih => rw [madeFl_succ,List.length_append]; omega
theorem allFl_mono (p : List Fate) (s : RShip) (r : List RShip) (left : Int) : ∀ {i j : Nat},i ≤ j → (allFl p s r left i).length ≤ (allFl p s r left j).length := by
 intro i j h
 induction h with
 | refl => exact Nat.le_refl _
 | step _ ih => rw [allFl_succ,List.length_append]; omega
theorem room {p : List Fate} {s : RShip} {r : List RShip} {left : Int} {q j : Nat} (hq : q ≤ s.calls.length) (hj : j < (s.hi - s.lo + 1).toNat) (hle : sinksI s q ≤ left) :
  (allFl p s r left q).length + (madeFl p s r left q j).length + (fleetsI r (left - sinksI s q)).length ≤ (fleetsI (s :: r) left).length := by
 have h1 := allFl_mono p s r left (show q + 1 ≤ s.calls.length + 1 by omega)
 rw [allFl_all,List.length_map,allFl_succ,if_pos hle,List.length_append] at h1
 have h2 := madeFl_mono p s r left q (show j + 1 ≤ (s.hi - s.lo + 1).toNat by omega)
 rw [madeFl_succ,List.length_append,lateFl_length] at h2
 omega
def NextR (h : RHarb) (b : Nat) (t : TB) (l : Nat) (S : Nat → Prop) (J : List (List Fate) → Mem → Prop) (F : Mem → Prop) (p : List Fate) (pre fl : List (List Fate)) (m : Mem) (r : AV) (m' : Mem) : Prop :=
 Keeps (fun k => S k ∨ t.has k) m m' ∧ Known h b t.bm m' ∧ ((r = .bool true ∧ ∃ L,THold h b t l p (pre ++ L) m' ∧ J (pre ++ L) m' ∧ Given h b pre fl L) ∨ (r = .bool false ∧ F m'))
theorem next_c (h : RHarb) (hh : HOk h) (b : Nat) (hb : b < 2 ^ 32) (t : TB) (ht : t.Ok) {l : Nat} {S : Nat → Prop} {J : List (List Fate) → Mem → Prop} {F : Mem → Prop} (hy : YTok h b t.bm l S J F) (hS : ∀ k,t.has k ∨ k = t.nx → ¬ S k) :
  ∀ (n : Nat) (p : List Fate),PreOk h p → p.length + n = h.ships.length → ∀ (left : Int),0 ≤ left → left ≤ 3 → (∀ g ∈ fleetsI (h.ships.drop p.length) left,p ++ g ∈ fleetsI h.ships h.lost) → ∀ (pre : List (List Fate)) (m : Mem),pre.length + (fleetsI (h.ships.drop p.length) left).length ≤ 4096 → THold h b t l p pre m → J pre m →
  ACall Try.prog 81 [.int .i64 p.length,.int .i64 left,.eptr [.eptr (lookedL h b t.bm)],.ptr t.f 0,.ptr t.la 0,.ptr t.fi 0,.eptr [.fn (.yield l) [] []],.ptr t.nx 0] m
   (NextR h b t l S J F p pre ((fleetsI (h.ships.drop p.length) left).map fun g => p ++ g) m)
 | 0,p,hp,hn,left,hl0,hl3,hin,pre,m,hroom,hm,hJ => by
  have hpn : p.length = h.ships.length := by omega
  rw [List.drop_eq_nil_of_le (by omega)] at hroom hin ⊢
  simp only [fleetsI,List.map_cons,List.map_nil,List.append_nil,List.length_cons,List.length_nil] at hroom ⊢
  have := next_leaf h hh b hb t ht hy hS p (hp.full hpn) (by simpa [fleetsI] using hin) left pre (by omega) m hm hJ
  rw [← hpn] at this
  exact this
 | n + 1,p,hp,hn,left,hl0,hl3,hin,pre,m,hroom,hm,hJ => by
  have ih := next_c h hh b hb t ht hy hS n
  have hk : p.length < h.ships.length := by omega
  have h3 := hh.n
  have hso := hh.ship p.length hk
  have hdrop : h.ships.drop p.length = h.ships[p.length]! :: h.ships.drop (p.length + 1) := by rw [getD_any hk,List.drop_eq_getElem_cons hk]
  rw [hdrop] at hroom hin ⊢
  have hk3 : p.length < 3 := by omega
  have hpn := fun (e : Fate) => PreOk.snoc (e := e) hp hk
  have hla := hso.late
  have hca := hso.n
  have nS : ∀ k,S k → k ≠ t.f := fun k hk e => hS k (.inl (.inr (.inl e))) hk
  obtain ⟨q1,q2,q3,q4,q5,q6,q7,q8,q9,q10⟩ := ht
  have hnk : ((p.length : Int) = (h.ships.length : Int)) = False := by simp; omega
  simp only [lookedL]
  (refine acall_intro (E := envC (modeAt [11,13] []) false []) (envCOk _ _ _) rfl Try.func81 rfl Try.call81 (by kernel_rfl) (by simp [Try.ntmps81]) ?_; simp only [Try.f81];  simp(maxSteps:=9^9)only[↓VX,VQ,seval,hnk])
  repeat'(first|intro _|apply And.intro)
  ·omega
  ·omega
  ·omega
  ·omega
  generalize hs : h.ships[p.length]! = s at *
  generalize hr : h.ships.drop (p.length + 1) = r at *
  refine aloop (envCOk _ _ _) (fun x : Nat × List (List Fate) × Fate × Mem => ⟨[(0,.v (.int .i64 p.length)),(1,.v (.int .i64 left)),(2,.v (.eptr [.eptr (lookedL h b t.bm)])),(3,.v (.ptr t.f 0)),(4,.v (.ptr t.la 0)),(5,.v (.ptr t.fi 0)),(6,.v (.eptr [.fn (.yield l) [] []])),(7,.v (.ptr t.nx 0)),(13,.loc 13 0),(58,.v (.int .i64 ((s.calls.length : Int) + 1))),(59,.v (.int .i64 x.1))],[],
    [(13,[.str s.name,.int .i64 s.sails,.slice 2 (s.calls.map callA),.int .i64 s.lo,.int .i64 s.hi])],x.2.2.2⟩)
   (fun x => x.1 ≤ s.calls.length + 1 ∧ THold h b t l (p ++ [x.2.2.1]) (pre ++ x.2.1) x.2.2.2 ∧ J (pre ++ x.2.1) x.2.2.2 ∧ Given h b pre (allFl p s r left x.1) x.2.1 ∧ Keeps (fun k => S k ∨ t.has k) m x.2.2.2)
   (fun x => s.calls.length + 1 - x.1) (0,[],⟨0,0⟩,m) (fun _ => rfl) ?_ (by (simp only [FE,↓FP,seval]); try simp [lookedL,overlay,shipL]) ?_
  ·refine ⟨by simp,⟨by rw [fleetL_none]; exact hm.f,by simpa using hm.la,hm.nx,hm.kn⟩,by simpa using hJ,Given.nil _ _ _,Keeps.refl _ _⟩
  rintro ⟨q,L,e0,mq⟩ ⟨hq,hmq,hJq,hgq,hkq⟩
  simp only at hq hmq hJq hgq hkq
  simp only [lookedL]
  simp(maxSteps:=9^9)only[↓VX,VQ,seval,buildV]
  refine ⟨fun ql _ => ⟨?_,fun qd => ?_,fun qd => ?_⟩,fun ql => ?_⟩
  ·have := eqFlat135 0 q 0 s.calls.length
   simpa only [decide_true,Bool.true_and,Bool.and_true] using this
  rotate_left 2
  ·have hqe : q = s.calls.length + 1 := by omega
   have gf := hmq.f
   have hfl := fleetL_length fun i => (p ++ [e0])[i]!
   have hset := fleetL_set p e0 ⟨0,0⟩ hk3
   simp only at hset
   rw [fleetL_none] at hset
   simp(maxSteps:=9^9)only[↓VX,VQ,seval,gf,hset,hfl]
   refine ⟨⟨by omega,by omega⟩,by omega,?_⟩
   have hk2 : Known h b t.bm (upd mq t.f (some (.cells (fleetL fun i => p[i]!)))) := by obtain ⟨ls,k1,k2⟩ := hmq.kn; exact ⟨ls,k1,by rw [upd_ne _ _ q1]; exact k2⟩
   refine ⟨hkq.trans (Keeps.set (.inr (.inr (.inl rfl)))),hk2,.inl ⟨rfl,L,⟨upd_same _ _ _,by rw [upd_ne _ _ q5.symm,upd_ne _ _ q6.symm]; exact hmq.la,by rw [upd_ne _ _ q7.symm]; exact hmq.nx,hk2⟩,hy.st _ _ _ hJq fun k hk => upd_ne _ _ (nS k hk),?_⟩⟩
   rw [← allFl_all,← hqe]
   exact hgq
  ·have hsk : sinksI s q = 1 := by
    unfold sinksI
    rw [if_pos]; have qd' : ¬ (q : Int) = s.calls.length := by simpa using qd
    omega
   refine aloop (envCOk _ _ _) (fun x : Nat × List (List Fate) × Fate × Mem => ⟨[(0,.v (.int .i64 p.length)),(1,.v (.int .i64 left)),(2,.v (.eptr [.eptr (lookedL h b t.bm)])),(3,.v (.ptr t.f 0)),(4,.v (.ptr t.la 0)),(5,.v (.ptr t.fi 0)),(6,.v (.eptr [.fn (.yield l) [] []])),(7,.v (.ptr t.nx 0)),(13,.loc 13 0),(14,.v (.int .i64 q)),(15,.v (.int .i64 1)),(16,.v (.int .i64 (s.lo + x.1))),(58,.v (.int .i64 ((s.calls.length : Int) + 1))),(59,.v (.int .i64 q))],[],
     [(13,[.str s.name,.int .i64 s.sails,.slice 2 (s.calls.map callA),.int .i64 s.lo,.int .i64 s.hi])],x.2.2.2⟩)
    (fun x => x.1 ≤ (s.hi - s.lo + 1).toNat ∧ (¬ 1 ≤ left → x.1 = 0) ∧ THold h b t l (p ++ [x.2.2.1]) (pre ++ L ++ x.2.1) x.2.2.2 ∧ J (pre ++ L ++ x.2.1) x.2.2.2 ∧ Given h b (pre ++ L) (madeFl p s r left q x.1) x.2.1 ∧ Keeps (fun k => S k ∨ t.has k) m x.2.2.2)
    (fun x => (s.hi - s.lo + 1).toNat - x.1) (0,[],e0,mq) (fun _ => rfl) ?_ (by (simp only [FE,↓FP,seval]); try simp [lookedL]) ?_
   ·exact ⟨by simp,fun _ => rfl,by simpa using hmq,by simpa using hJq,Given.nil _ _ _,hkq⟩
   rintro ⟨j,L',e1,mj⟩ ⟨hj,hj0,hmj,hJj,hgj,hkj⟩
   simp only at hj hj0 hmj hJj hgj hkj
   simp only [lookedL]
   have gf := hmj.f
   have gx := hmj.nx
   have hfl := fleetL_length fun i => (p ++ [e1])[i]!
   have hset := fleetL_set p e1 ⟨s.lo + j,q⟩ hk3
   simp only at hset
   simp only [nextA,lookedL] at gx
   simp(maxSteps:=9^9)only[↓VX,VQ,seval,gf,gx,q7,q7.symm,hset,hfl,buildV]
   repeat'(first|intro _|apply And.intro)
   all_goals try omega
   ·have hle : sinksI s q ≤ left := by rw [hsk]; omega
    have hjl : j < (s.hi - s.lo + 1).toNat := by omega
    have hroom2 := room (p := p) (r := r) (show q ≤ s.calls.length by omega) hjl hle
    have hn1 := hgq.n
    have hin' : ∀ g ∈ fleetsI r (left - 1),(p ++ [Fate.mk (s.lo + j) q]) ++ g ∈ fleetsI h.ships h.lost := fun g hg => by
     rw [List.append_assoc]
     refine hin _ ?_
     unfold fleetsI
     simp only [List.mem_flatMap]
     refine ⟨q,mem_madeL.2 (by omega),?_⟩
     rw [if_pos hle,hsk]
     simp only [List.mem_flatMap,List.mem_map]
     exact ⟨s.lo + j,mem_lateL.2 (by omega),g,hg,rfl⟩
    have hn2 := hgj.n
    have hlen' : (p ++ [Fate.mk (s.lo + j) q]).length = p.length + 1 := by simp
    have hp' := hpn ⟨s.lo + j,q⟩ (by dsimp only; omega) (by dsimp only; omega)
    have hih := ih (p ++ [Fate.mk (s.lo + j) q]) hp' (by rw [hlen']; omega) (left - 1) (by omega) (by omega) (by rw [hlen',hr]; exact hin') (pre ++ L ++ L') (upd mj t.f (some (.cells (fleetL fun i => (p ++ [Fate.mk (s.lo + j) q])[i]!))))
     (by rw [hlen',hr,← hsk]; simp only [List.length_append]; omega) ⟨upd_same _ _ _,by rw [upd_ne _ _ q5.symm,upd_ne _ _ q6.symm]; exact hmj.la,by rw [upd_ne _ _ q7.symm]; exact hmj.nx,by obtain ⟨ls,k1,k2⟩ := hmj.kn; exact ⟨ls,k1,by rw [upd_ne _ _ q1]; exact k2⟩⟩
     (hy.st _ _ _ hJj fun k hk => upd_ne _ _ (nS k hk))
    rw [hlen',hr,show ((p.length + 1 : Nat) : Int) = (p.length : Int) + 1 by omega] at hih
    simp only [lookedL] at hih
    refine ACall.told hih ?_
    rintro r2 m2 ⟨k1,k2,⟨rfl,L2,g1,g2,g3⟩ | ⟨rfl,hF⟩⟩
    ·simp(maxSteps:=9^9)only[↓VX,VQ,seval]
     repeat'(first|intro _|apply And.intro)
     all_goals try omega
     refine ⟨(j + 1,L' ++ L2,⟨s.lo + j,q⟩,m2),⟨by dsimp only; omega,fun hn => absurd (by omega) hn,by rw [← List.append_assoc]; exact g1,by rw [← List.append_assoc]; exact g2,by rw [madeFl_succ]; exact hgj.app (by unfold lateFl; rw [hsk]; exact g3),?_⟩,by dsimp only; omega,?_⟩
     ·exact hkj.trans ((Keeps.set (.inr (.inr (.inl rfl)))).trans k1)
     ·(simp only [FE,↓FP,seval])
      simp; omega
    ·simp(maxSteps:=9^9)only[↓VX,VQ,seval]
     exact ⟨hkj.trans ((Keeps.set (.inr (.inr (.inl rfl)))).trans k1),k2,.inr ⟨rfl,hF⟩⟩
   ·refine ⟨(q + 1,L ++ L',e1,mj),⟨by dsimp only; omega,by rw [← List.append_assoc]; exact hmj,by rw [← List.append_assoc]; exact hJj,?_,hkj⟩,by dsimp only; omega,?_⟩
    ·rw [allFl_succ,hsk]
     have h0 := hj0 (by assumption)
     subst h0
     rw [if_neg (by assumption)]
     exact hgq.app hgj
    ·(simp only [FE,↓FP,seval])
     simp
   ·refine ⟨(q + 1,L ++ L',e1,mj),⟨by dsimp only; omega,by rw [← List.append_assoc]; exact hmj,by rw [← List.append_assoc]; exact hJj,?_,hkj⟩,by dsimp only; omega,?_⟩
    ·rw [allFl_succ,hsk]
     have hjN : j = (s.hi - s.lo + 1).toNat := by omega
     have hle : 1 ≤ left := by apply Decidable.byContradiction; intro hn; have := hj0 hn; omega
     rw [if_pos hle,← hjN]
     exact hgq.app hgj
    ·(simp only [FE,↓FP,seval])
     simp
  ·have hsk : sinksI s q = 0 := by
    unfold sinksI
    rw [if_neg]; have qd' : (q : Int) = s.calls.length := by simpa using qd
    omega
   refine aloop (envCOk _ _ _) (fun x : Nat × List (List Fate) × Fate × Mem => ⟨[(0,.v (.int .i64 p.length)),(1,.v (.int .i64 left)),(2,.v (.eptr [.eptr (lookedL h b t.bm)])),(3,.v (.ptr t.f 0)),(4,.v (.ptr t.la 0)),(5,.v (.ptr t.fi 0)),(6,.v (.eptr [.fn (.yield l) [] []])),(7,.v (.ptr t.nx 0)),(13,.loc 13 0),(14,.v (.int .i64 q)),(15,.v (.int .i64 0)),(16,.v (.int .i64 (s.lo + x.1))),(58,.v (.int .i64 ((s.calls.length : Int) + 1))),(59,.v (.int .i64 q))],[],
     [(13,[.str s.name,.int .i64 s.sails,.slice 2 (s.calls.map callA),.int .i64 s.lo,.int .i64 s.hi])],x.2.2.2⟩)
    (fun x => x.1 ≤ (s.hi - s.lo + 1).toNat ∧ (¬ 0 ≤ left → x.1 = 0) ∧ THold h b t l (p ++ [x.2.2.1]) (pre ++ L ++ x.2.1) x.2.2.2 ∧ J (pre ++ L ++ x.2.1) x.2.2.2 ∧ Given h b (pre ++ L) (madeFl p s r left q x.1) x.2.1 ∧ Keeps (fun k => S k ∨ t.has k) m x.2.2.2)
    (fun x => (s.hi - s.lo + 1).toNat - x.1) (0,[],e0,mq) (fun _ => rfl) ?_ (by (simp only [FE,↓FP,seval]); try simp [lookedL]) ?_
   ·exact ⟨by simp,fun _ => rfl,by simpa using hmq,by simpa using hJq,Given.nil _ _ _,hkq⟩
   rintro ⟨j,L',e1,mj⟩ ⟨hj,hj0,hmj,hJj,hgj,hkj⟩
   simp only at hj hj0 hmj hJj hgj hkj
   simp only [lookedL]
   have gf := hmj.f
   have gx := hmj.nx
   have hfl := fleetL_length fun i => (p ++ [e1])[i]!
   have hset := fleetL_set p e1 ⟨s.lo + j,q⟩ hk3
   simp only at hset
   simp only [nextA,lookedL] at gx
   simp(maxSteps:=9^9)only[↓VX,VQ,seval,gf,gx,q7,q7.symm,hset,hfl,buildV]
   repeat'(first|intro _|apply And.intro)
   all_goals try omega
   ·have hle : sinksI s q ≤ left := by rw [hsk]; omega
    have hjl : j < (s.hi - s.lo + 1).toNat := by omega
    have hroom2 := room (p := p) (r := r) (show q ≤ s.calls.length by omega) hjl hle
    have hn1 := hgq.n
    have hin' : ∀ g ∈ fleetsI r (left - 0),(p ++ [Fate.mk (s.lo + j) q]) ++ g ∈ fleetsI h.ships h.lost := fun g hg => by
     rw [List.append_assoc]
     refine hin _ ?_
     unfold fleetsI
     simp only [List.mem_flatMap]
     refine ⟨q,mem_madeL.2 (by omega),?_⟩
     rw [if_pos hle,hsk]
     simp only [List.mem_flatMap,List.mem_map]
     exact ⟨s.lo + j,mem_lateL.2 (by omega),g,hg,rfl⟩
    have hn2 := hgj.n
    have hlen' : (p ++ [Fate.mk (s.lo + j) q]).length = p.length + 1 := by simp
    have hp' := hpn ⟨s.lo + j,q⟩ (by dsimp only; omega) (by dsimp only; omega)
    have hih := ih (p ++ [Fate.mk (s.lo + j) q]) hp' (by rw [hlen']; omega) (left - 0) (by omega) (by omega) (by rw [hlen',hr]; exact hin') (pre ++ L ++ L') (upd mj t.f (some (.cells (fleetL fun i => (p ++ [Fate.mk (s.lo + j) q])[i]!))))
     (by rw [hlen',hr,← hsk]; simp only [List.length_append]; omega) ⟨upd_same _ _ _,by rw [upd_ne _ _ q5.symm,upd_ne _ _ q6.symm]; exact hmj.la,by rw [upd_ne _ _ q7.symm]; exact hmj.nx,by obtain ⟨ls,k1,k2⟩ := hmj.kn; exact ⟨ls,k1,by rw [upd_ne _ _ q1]; exact k2⟩⟩
     (hy.st _ _ _ hJj fun k hk => upd_ne _ _ (nS k hk))
    rw [hlen',hr,show ((p.length + 1 : Nat) : Int) = (p.length : Int) + 1 by omega] at hih
    simp only [lookedL] at hih
    refine ACall.told hih ?_
    rintro r2 m2 ⟨k1,k2,⟨rfl,L2,g1,g2,g3⟩ | ⟨rfl,hF⟩⟩
    ·simp(maxSteps:=9^9)only[↓VX,VQ,seval]
     repeat'(first|intro _|apply And.intro)
     all_goals try omega
     refine ⟨(j + 1,L' ++ L2,⟨s.lo + j,q⟩,m2),⟨by dsimp only; omega,fun hn => absurd (by omega) hn,by rw [← List.append_assoc]; exact g1,by rw [← List.append_assoc]; exact g2,by rw [madeFl_succ]; exact hgj.app (by unfold lateFl; rw [hsk]; exact g3),?_⟩,by dsimp only; omega,?_⟩
     ·exact hkj.trans ((Keeps.set (.inr (.inr (.inl rfl)))).trans k1)
     ·(simp only [FE,↓FP,seval])
      simp; omega
    ·simp(maxSteps:=9^9)only[↓VX,VQ,seval]
     exact ⟨hkj.trans ((Keeps.set (.inr (.inr (.inl rfl)))).trans k1),k2,.inr ⟨rfl,hF⟩⟩
   ·refine ⟨(q + 1,L ++ L',e1,mj),⟨by dsimp only; omega,by rw [← List.append_assoc]; exact hmj,by rw [← List.append_assoc]; exact hJj,?_,hkj⟩,by dsimp only; omega,?_⟩
    ·rw [allFl_succ,hsk]
     have hjN : j = (s.hi - s.lo + 1).toNat := by omega
     have hle : 0 ≤ left := by apply Decidable.byContradiction; intro hn; have := hj0 hn; omega
     rw [if_pos hle,← hjN]
     exact hgq.app hgj
    ·(simp only [FE,↓FP,seval])
     simp
theorem fleets_le {h : RHarb} (hh : HOk h) (left : Int) : (fleetsI h.ships left).length ≤ 4096 := by
 have h3 := hh.n
 refine Nat.le_trans (fleetsI_le fun s hs => ?_) ?_
 ·obtain ⟨i,hi,e⟩ := List.getElem_of_mem hs
  have := hh.ship i hi
  rw [getD_any hi,e] at this
  exact ⟨by have := this.late; omega,this.n⟩
 ·exact Nat.le_trans (Nat.pow_le_pow_right (by decide) h3) (by decide)
theorem truths1_c (h : RHarb) (hh : HOk h) (b : Nat) (hb : b < 2 ^ 32) (bm : Nat) {l : Nat} {S : Nat → Prop} {J : List (List Fate) → Mem → Prop} {F : Mem → Prop} (hy : YTok h b bm l S J F) (m : Mem) (hkn : Known h b bm m) (hS : ∀ k,S k → m k ≠ none) (hbm : ¬ S bm) (hJ : J [] m) :
  ACall Try.prog 80 [.fn (.yield l) [] [],.eptr [.eptr (lookedL h b bm)]] m fun _ m' => Keeps (fun k => S k ∨ k = bm) m m' ∧ Known h b bm m' ∧ ((∃ L,J L m' ∧ Given h b [] (fleetsI h.ships h.lost) L) ∨ F m') := by
 have hroom := fleets_le hh h.lost
 have hl := hh.l
 have hbn : m bm ≠ none := by obtain ⟨ls,k1,k2⟩ := hkn; rw [k2]; simp
 have hnext := fun (t : TB) (ht : t.Ok) (e : t.bm = bm) hS => next_c h hh b hb t ht (l := l) (S := S) (J := J) (F := F) (by rw [e]; exact hy) hS h.ships.length [] (PreOk.nil h) (by simp) h.lost hl.1 hl.2 (by simp) []
 simp only [List.length_nil,List.drop_zero,Nat.zero_add,Int.natCast_zero,List.nil_append,List.map_id',lookedL] at hnext
 simp only [lookedL]
 (refine acall_intro (E := envC (modeAt [] [3,4,5,6]) false []) (envCOk _ _ _) rfl Try.func80 rfl Try.call80 (by kernel_rfl) (by simp [Try.ntmps80]) ?_; simp only [Try.f80];  simp(maxSteps:=9^9)only[↓VX,VQ,seval])
 intro bf hbf bl hbl bi hbi bx hbx
 have n1 : bm ≠ bf := by rintro rfl; exact hbn hbf
 have n5 : bl ≠ bf := by rintro rfl; simp at hbl
 have hbl' : m bl = none := by rw [if_neg n5] at hbl; exact hbl
 have n2 : bm ≠ bl := by rintro rfl; exact hbn hbl'
 have n8 : bi ≠ bl := by rintro rfl; simp at hbi
 have n6 : bi ≠ bf := by rintro rfl; simp [n8] at hbi
 have hbi' : m bi = none := by simpa [n8,n6] using hbi
 have n3 : bm ≠ bi := by rintro rfl; exact hbn hbi'
 have n10 : bx ≠ bi := by rintro rfl; simp at hbx
 have n9 : bx ≠ bl := by rintro rfl; simp [n10] at hbx
 have n7 : bx ≠ bf := by rintro rfl; simp [n10,n9] at hbx
 have hbx' : m bx = none := by simpa [n10,n9,n7] using hbx
 have n4 : bm ≠ bx := by rintro rfl; exact hbn hbx'
 have htt : TB.Ok ⟨bm,bf,bl,bi,bx⟩ := ⟨n1,n2,n3,n4,n5.symm,n6.symm,n7.symm,n8.symm,n9.symm,n10.symm⟩
 have hSf : ∀ k,(TB.has ⟨bm,bf,bl,bi,bx⟩ k ∨ k = bx) → ¬ S k := by
  rintro k ((rfl | rfl | rfl | rfl) | rfl) hk
  ·exact hbm hk
  ·exact hS _ hk hbf
  ·exact hS _ hk hbl'
  ·exact hS _ hk hbi'
  ·exact hS _ hk hbx'
 have hnn := hnext ⟨bm,bf,bl,bi,bx⟩ htt rfl hSf
 (refine adraw (by first | exact envOk _ | exact envCOk _ _ _) mixed [⟨false,false,0⟩,⟨true,false,0⟩,⟨true,false,0⟩,⟨true,false,0⟩,⟨true,false,0⟩,⟨true,false,0⟩,⟨false,false,2⟩] (by kernel_rfl) ?_; show vcOpsD _ _ _ (_ :: _) _ _)
 simp(maxSteps:=9^9)only[↓VX,VQ,seval,n7,n9,n10]
 repeat'(first|intro _|apply And.intro)
 have keep : ∀ {m4 : Mem},(∀ k,k ≠ bf → k ≠ bl → k ≠ bi → k ≠ bx → m4 k = m k) → Known h b bm m4 ∧ J [] m4 ∧ Keeps (fun _ => False) m m4 := fun {m4} hk => by
  have hne : ∀ k x,m k = some x → k ≠ bf ∧ k ≠ bl ∧ k ≠ bi ∧ k ≠ bx := fun k x hx => ⟨fun e => (by rw [e,hbf] at hx; cases hx),fun e => (by rw [e,hbl'] at hx; cases hx),fun e => (by rw [e,hbi'] at hx; cases hx),fun e => (by rw [e,hbx'] at hx; cases hx)⟩
  refine ⟨?_,hy.st [] m m4 hJ fun k hq => ?_,⟨fun k x _ hx => ?_⟩⟩
  ·obtain ⟨ls,k1,k2⟩ := hkn
   exact ⟨ls,k1,by rw [hk bm n1 n2 n3 n4]; exact k2⟩
  ·exact hk k (fun e => hS k hq (by rw [e]; exact hbf)) (fun e => hS k hq (by rw [e]; exact hbl')) (fun e => hS k hq (by rw [e]; exact hbi')) (fun e => hS k hq (by rw [e]; exact hbx'))
  ·obtain ⟨a1,a2,a3,a4⟩ := hne k x hx
   rw [hk k a1 a2 a3 a4]; exact hx
 refine ACall.mono (hnn _ hroom ?_ ?_) ?_
 ·refine ⟨?_,⟨[],true,?_,?_,fun e => by cases e⟩,?_,?_⟩
  ·simp [upd,n5,n6,n7,n8,n9,n10,n5.symm,n6.symm,n7.symm,n8.symm,n9.symm,n10.symm]; rfl
  ·simp [upd,n5,n6,n7,n8,n9,n10,n5.symm,n6.symm,n7.symm,n8.symm,n9.symm,n10.symm]; rfl
  ·simp [upd,n5,n6,n7,n8,n9,n10,n5.symm,n6.symm,n7.symm,n8.symm,n9.symm,n10.symm]
  ·simp [upd,n5,n6,n7,n8,n9,n10,n5.symm,n6.symm,n7.symm,n8.symm,n9.symm,n10.symm,nextA,lookedL]
  ·exact (keep fun k a1 a2 a3 a4 => by simp [upd,a1,a2,a3,a4]).1
 ·exact (keep fun k a1 a2 a3 a4 => by simp [upd,a1,a2,a3,a4]).2.1
 ·rintro r m' ⟨k1,k2,k3⟩
  simp(maxSteps:=9^9)only[↓VX,VQ,seval]
  refine ⟨⟨fun k x hk hx => ?_⟩,k2,?_⟩
  ·refine k1 k x ?_ ((keep fun k a1 a2 a3 a4 => by simp [upd,a1,a2,a3,a4]).2.2 k x (fun h => h) hx)
   rintro (hs | (rfl | rfl | rfl | rfl))
   ·exact hk (.inl hs)
   ·exact hk (.inr rfl)
   ·rw [hbf] at hx; cases hx
   ·rw [hbl'] at hx; cases hx
   ·rw [hbi'] at hx; cases hx
  ·rcases k3 with ⟨_,L,g1,g2,g3⟩ | ⟨_,hF⟩
   ·exact .inl ⟨L,g2,g3⟩
   ·exact .inr hF
theorem ne_of_some {m : Mem} {b l : Nat} {y : Box} (h : m b = some y) (h0 : m l = none) : b ≠ l := by
 rintro rfl; rw [h0] at h; cases h
theorem truthsF_c (h : RHarb) (b bm : Nat) : PCall Try.prog 66 [.eptr (lookedL h b bm)] (.fn (.func 80) [] [.eptr [.eptr (lookedL h b bm)]]) := by
 intro m
 simp only [lookedL]
 (refine acall_intro (E := env fun _ => .imm) (envOk _) rfl Try.func66 rfl Try.call66 (by kernel_rfl) (by simp [Try.ntmps66]) ?_; simp only [Try.f66];  simp(maxSteps:=9^9)only[↓VX,VQ,seval])
def anyT (h : RHarb) (b : Nat) : Bool := (fleetsI h.ships h.lost).any (loadsOk h b)
theorem given_none {h : RHarb} {b : Nat} (g : Given h b [] (fleetsI h.ships h.lost) []) : anyT h b = false := by
 unfold anyT
 rw [List.any_eq_false]
 intro x hx ho
 simpa using g.c x hx ho
theorem someT_c (h : RHarb) (hh : HOk h) (b : Nat) (hb : b < 2 ^ 32) (bm : Nat) (m : Mem) (hkn : Known h b bm m) :
  ACall Try.prog 79 [.eptr (lookedL h b bm)] m fun r m' => r = .bool (anyT h b) ∧ Known h b bm m' ∧ Keeps (fun k => k = bm) m m' := by
 have htr := truthsF_c h b bm
 have hbn : ∃ y,m bm = some y := by obtain ⟨ls,k1,k2⟩ := hkn; exact ⟨_,k2⟩
 obtain ⟨yb,hbn⟩ := hbn
 have ht1 := fun (l : Nat) (S : Nat → Prop) (J : List (List Fate) → Mem → Prop) (F : Mem → Prop) (hy : YTok h b bm l S J F) (m : Mem) => truths1_c h hh b hb bm hy m
 simp only [lookedL] at htr ht1 ⊢
 (refine acall_intro (E := envC (modeAt [] [2]) false []) (envCOk _ _ _) rfl Try.func79 rfl Try.call79 (by kernel_rfl) (by simp [Try.ntmps79]) ?_; simp only [Try.f79];  simp(maxSteps:=9^9)only[↓VX,VQ,seval])
 intro b2 hb2
 (refine ACall.pure (htr) ?_; try simp(maxSteps:=9^9)only[↓VX,VQ,seval])
 have n2 := ne_of_some hbn hb2
 refine arange rfl (f := 80) (first := []) (caps := [.eptr [.eptr (lookedL h b bm)]]) (by simp(maxSteps:=9^9)only[↓VX,VQ,seval,lookedL]) ?_
 intro l hl
 have hl2 : l ≠ b2 := by rintro rfl; simp [upd] at hl
 have hl0 : m l = none := by simpa [upd,hl2] using hl
 have nl := ne_of_some hbn hl0
 generalize hR : LoopA.mk _ _ _ _ _ = R
 have hyok : YTok h b bm l (fun k => k = l ∨ k = b2) (fun pre m1 => pre = [] ∧ m1 l = some (.loop .ready none R) ∧ m1 b2 = some (.cells [.bool false]))
   (fun m1 => anyT h b = true ∧ m1 l = some (.loop .done (some .ret) R) ∧ m1 b2 = some (.cells [.bool true])) := by
  refine ⟨fun pre x m1 hn hx hin ok hk hJ => ?_,fun pre m1 m2 hJ hs => ?_⟩
  ·obtain ⟨rfl,j3,j4⟩ := hJ
   subst hR
   refine ayield (E := envC (modeAt [] [2]) true []) (envCOk _ _ _) rfl j3 rfl (by rfl) (by rfl) (by rfl) ?_
   simp(maxSteps:=9^9)only[↓VX,VQ,seval,j3,j4,hl2,hl2.symm]
   have hany : anyT h b = true := by unfold anyT; rw [List.any_eq_true]; exact ⟨x,hin,ok⟩
   refine ⟨⟨fun k y hq hy => ?_⟩,.inr hany⟩
   simp only [not_or] at hq
   rw [upd_ne _ _ hq.1,upd_ne _ _ hq.2,upd_ne _ _ hq.1]; exact hy
  ·obtain ⟨rfl,j3,j4⟩ := hJ
   exact ⟨rfl,by rw [hs l (.inl rfl)]; exact j3,by rw [hs b2 (.inr rfl)]; exact j4⟩
 have hdom : ∀ k y,m k = some y → k ≠ l ∧ k ≠ b2 := fun k y hy => ⟨ne_of_some hy hl0,ne_of_some hy hb2⟩
 refine ACall.mono (ht1 l _ _ _ hyok _ ?_ ?_ ?_ ?_) ?_ <;> (try dsimp only)
 ·obtain ⟨ls,k1,k2⟩ := hkn
  exact ⟨ls,k1,by rw [upd_ne _ _ nl,upd_ne _ _ n2]; exact k2⟩
 ·rintro k (rfl | rfl)
  ·rw [upd_same]; simp
  ·rw [upd_ne _ _ hl2.symm,upd_same]; simp
 ·rintro (e | e)
  ·exact nl e
  ·exact n2 e
 ·exact ⟨rfl,upd_same _ _ _,by rw [upd_ne _ _ hl2.symm,upd_same]⟩
 ·rintro r m' ⟨k1,k2,k3⟩
  have kk : Keeps (fun k => k = bm) m m' := by
   refine ⟨fun k y hq hy => ?_⟩
   obtain ⟨a1,a2⟩ := hdom k y hy
   exact k1 k y (by rintro ((e | e) | e); exact a1 e; exact a2 e; exact hq e) (by rw [upd_ne _ _ a1,upd_ne _ _ a2]; exact hy)
  clear ht1 hyok
  rcases k3 with ⟨L,⟨rfl,j3,j4⟩,g⟩ | ⟨hany,j3,j4⟩
  ·have hno := given_none g
   simp(maxSteps:=9^9)only[↓VX,VQ,seval,j3,j4,hl2,hl2.symm]
   refine ⟨by rw [hno],?_,⟨fun k y hq hy => ?_⟩⟩
   ·obtain ⟨ls,q1,q2⟩ := k2
    exact ⟨ls,q1,by rw [upd_ne _ _ n2,upd_ne _ _ nl]; exact q2⟩
   ·obtain ⟨a1,a2⟩ := hdom k y hy
    rw [upd_ne _ _ a2,upd_ne _ _ a1]; exact kk k y hq hy
  ·simp(maxSteps:=9^9)only[↓VX,VQ,seval,j3,j4,hl2,hl2.symm]
   refine ⟨by rw [hany],?_,⟨fun k y hq hy => ?_⟩⟩
   ·obtain ⟨ls,q1,q2⟩ := k2
    exact ⟨ls,q1,by rw [upd_ne _ _ nl]; exact q2⟩
   ·obtain ⟨a1,a2⟩ := hdom k y hy
    rw [upd_ne _ _ a1]; exact kk k y hq hy
theorem listTo_nil {s n : Nat} (hs : s < 2 ^ n) : listTo s n = [] ↔ s = 0 := by
 constructor
 ·intro h
  refine Nat.eq_of_testBit_eq fun i => ?_
  rw [Nat.zero_testBit]
  by_cases q : i < n
  ·cases hb : s.testBit i with
   | false => rfl
   | true =>
    have := (mem_listTo q).2 hb
    rw [h] at this; cases this
  ·rw [Nat.testBit_lt_two_pow (Nat.lt_of_lt_of_le hs (Nat.pow_le_pow_right (by decide) (by omega)))]
 ·rintro rfl
  unfold listTo
  simp
theorem loads_true {h : RHarb} (hh : HOk h) {l : List Fate} (hl : FOk h l) (b : Nat) : loadsOk h b l = trueB h (listTo b h.reports.length) l := by
 unfold loadsOk trueB
 rw [said_same hh hl]
 congr 1
 unfold goB
 refine all_congr fun k hk => ?_
 rw [← load_list hh hl b k,decide_eq_decide]
 have h1 : loadS h (fun i => l[i]!) b h.reports.length k < 2 ^ h.ships.length := setOf_lt _ _
 rw [List.length_pos_iff,ne_eq,ne_eq,listTo_nil h1]
theorem fleets_ok {h : RHarb} (hh : HOk h) {f : List Fate} (e : f ∈ fleetsI h.ships h.lost) : FOk h f := fleets_fok hh ((mem_fleets hh.l.1).1 e)
theorem truths_mem {h : RHarb} (hh : HOk h) (b : Nat) {t : RTru} : t ∈ truthsR h (listTo b h.reports.length) ↔ ∃ f ∈ fleetsI h.ships h.lost,loadsOk h b f = true ∧ t = truOf h (listTo b h.reports.length) f := by
 unfold truthsR
 simp only [List.mem_map,List.mem_filter]
 constructor
 ·rintro ⟨f,⟨h1,h2⟩,rfl⟩
  have h1' := (mem_fleets hh.l.1).2 h1
  exact ⟨f,h1',by rw [loads_true hh (fleets_ok hh h1')]; exact h2,rfl⟩
 ·rintro ⟨f,h1,h2,rfl⟩
  exact ⟨f,⟨(mem_fleets hh.l.1).1 h1,by rw [← loads_true hh (fleets_ok hh h1)]; exact h2⟩,rfl⟩
theorem any_truth {h : RHarb} (hh : HOk h) (b : Nat) : anyT h b = okT h (listTo b h.reports.length) := by
 unfold anyT okT
 rw [Bool.eq_iff_iff,List.any_eq_true,decide_eq_true_eq,List.length_pos_iff_exists_mem]
 constructor
 ·rintro ⟨f,h1,h2⟩
  exact ⟨_,(truths_mem hh b).2 ⟨f,h1,h2,rfl⟩⟩
 ·rintro ⟨t,ht⟩
  obtain ⟨f,h1,h2,_⟩ := (truths_mem hh b).1 ht
  exact ⟨f,h1,h2⟩
theorem listTo_zero (n : Nat) : listTo 0 n = [] := by unfold listTo; simp
theorem any_zero {h : RHarb} (hh : HOk h) : anyT h 0 = decide (truthsR h [] ≠ []) := by
 rw [any_truth hh,listTo_zero]
 unfold okT
 rw [decide_eq_decide,List.length_pos_iff]
def enterE (h : RHarb) (many other : Int) (nums : List Int) : Int := if (checkH h).2.2 ≠ 0 then (checkH h).2.2 else if nums.any (offP 0 (many - 1)) = true then 4 else if other ≠ 0 then other else if anyT h 0 = true then 0 else 8
theorem enter_c (h : RHarb) (hs : hnamesFit h) (many other : Int) (nums : List Int) (hm : (checkH h).2.2 = 0 → -9223372036854775000 ≤ many ∧ many ≤ 9223372036854775807) (m : Mem) :
  ACall Try.prog 65 [harbA h,.int .i64 many,.int .i64 other,ints nums] m fun r m' => Keeps (fun _ => False) m m' ∧
   ((enterE h many other nums ≠ 0 ∧ r = .tuple [.nilptr,.int .i64 (enterE h many other nums)]) ∨ (enterE h many other nums = 0 ∧ ∃ bm,m bm = none ∧ r = .tuple [.eptr (lookedL h 0 bm),.int .i64 0] ∧ Known h 0 bm m')) := by
 have hck := check_c h hs
 have hoff := off_c 0 (many - 1) nums
 have hE : enterE h many other nums = if (checkH h).2.2 ≠ 0 then (checkH h).2.2 else if nums.any (offP 0 (many - 1)) = true then 4 else if other ≠ 0 then other else if anyT h 0 = true then 0 else 8 := rfl
 have hlook := fun m => look_c h 0 m
 have hsome := fun (q : (checkH h).2.2 = 0) (bm : Nat) (m : Mem) => someT_c h (hok_check q) 0 (by decide) bm m
 generalize enterE h many other nums = X at *
 generalize hW : checkH h = W at *
 simp only [harbA,harbL,ints,lookedL,Int.natCast_zero] at hck hoff hlook hsome ⊢
 (refine acall_intro (E := env fun _ => .imm) (envOk _) rfl Try.func65 rfl Try.call65 (by kernel_rfl) (by simp [Try.ntmps65]) ?_; simp only [Try.f65];  simp(maxSteps:=9^9)only[↓VX,VQ,seval])
 ((refine ACall.pure (hck) ?_; try simp(maxSteps:=9^9)only[↓VX,VQ,seval]); try simp(maxSteps:=9^9)only[↓VX,VQ,seval,GL])
 repeat'(first|intro _|apply And.intro)
 ·exact Keeps.refl _ _
 ·have q : ¬ W.2.2 = 0 := by assumption
  rw [if_pos q] at hE
  exact .inl ⟨by rw [hE]; exact q,by rw [hE]⟩
 ·have := hm (by omega); omega
 ·have := hm (by omega); omega
 have q : W.2.2 = 0 := by omega
 rw [if_neg (by omega)] at hE
 refine ACall.pure hoff ?_
 simp(maxSteps:=9^9)only[↓VX,VQ,seval]
 repeat'(first|intro _|apply And.intro)
 ·exact Keeps.refl _ _
 ·rw [if_pos (by assumption)] at hE
  subst hE
  exact .inl ⟨by decide,rfl⟩
 ·exact Keeps.refl _ _
 ·have q2 : ¬ other = 0 := by assumption
  rw [if_neg (by assumption),if_pos q2] at hE
  exact .inl ⟨by rw [hE]; exact q2,by rw [hE]⟩
 have q2 : other = 0 := by omega
 rw [if_neg (by assumption),if_neg (by omega)] at hE
 refine ACall.told (hlook m) ?_
 rintro r m1 ⟨bm,hbm,rfl,rfl⟩
 simp(maxSteps:=9^9)only[↓VX,VQ,seval]
 repeat'(first|intro _|apply And.intro)
 refine ACall.told (hsome q bm _ ⟨[],by simp,upd_same _ _ _⟩) ?_
 rintro r m2 ⟨rfl,hk,hkk⟩
 have hke : Keeps (fun _ => False) m m2 := by
  refine ⟨fun k x _ hx => ?_⟩
  have hne := ne_of_some hx hbm
  exact hkk k x hne (by rw [upd_ne _ _ hne]; exact hx)
 simp(maxSteps:=9^9)only[↓VX,VQ,seval]
 repeat'(first|intro _|apply And.intro)
 ·exact hke
 ·have q3 : anyT h 0 = false := by (first | assumption | (rw [← Bool.not_eq_false]; assumption) | (rw [← Bool.not_eq_true]; assumption) | omega)
  rw [q3] at hE
  have hE : X = 8 := hE
  subst hE
  exact .inl ⟨by decide,rfl⟩
 ·exact hke
 ·have q3 : anyT h 0 = true := by (first | assumption | (rw [← Bool.not_eq_false]; assumption) | (rw [← Bool.not_eq_true]; assumption) | omega)
  rw [if_pos q3] at hE
  exact .inr ⟨hE,bm,hbm,rfl,hk⟩
structure Same (h : RHarb) (L : List (List Fate)) : Prop where
 fok : ∀ x ∈ L,FOk h x
 ok : ∀ x ∈ L,loadsOk h 0 x = true
 a : ∀ t ∈ truthsR h [],∃ x ∈ L,t = truOf h [] x
 b : ∀ x ∈ L,truOf h [] x ∈ truthsR h []
theorem given_same {h : RHarb} (hh : HOk h) {L : List (List Fate)} (g : Given h 0 [] (fleetsI h.ships h.lost) L) : Same h L := by
 have hm := fun t => truths_mem hh 0 (t := t)
 simp only [listTo_zero] at hm
 refine ⟨fun x hx => fleets_ok hh (g.s x hx).1,fun x hx => (g.s x hx).2,fun t ht => ?_,fun x hx => ?_⟩
 ·obtain ⟨f,h1,h2,h3⟩ := (hm t).1 ht
  exact ⟨f,by simpa using g.c f h1 h2,h3⟩
 ·exact (hm _).2 ⟨x,(g.s x hx).1,(g.s x hx).2,rfl⟩
theorem at_mem {l : List RTru} {i : Nat} (hi : i < l.length) : l[i]! ∈ l := by rw [getD_any hi]; exact List.getElem_mem hi
theorem known_same {h : RHarb} (hh : HOk h) : (knownR h 0).2 = if anyT h 0 = true then 0 else 8 := by
 unfold knownR
 rw [if_neg (by simp),any_zero hh]
 by_cases q : truthsR h [] = []
 ·rw [if_pos q]; simp [q]
 ·rw [if_neg q]; simp [q]
theorem known_err {h : RHarb} {e : Int} (he : e ≠ 0) : knownR h e = ([],e) := by unfold knownR; rw [if_pos he]
theorem enter_zero {h : RHarb} {many other : Int} {nums : List Int} (e : enterE h many other nums = 0) : (checkH h).2.2 = 0 ∧ (∀ x ∈ nums,0 ≤ x ∧ x ≤ many - 1) ∧ other = 0 ∧ anyT h 0 = true := by
 unfold enterE at e
 split at e
 ·rename_i q; exact absurd e q
 ·rename_i q
  split at e
  ·cases e
  ·rename_i q2
   split at e
   ·rename_i q3; exact absurd e q3
   ·rename_i q3
    split at e
    ·rename_i q4
     refine ⟨by omega,fun x hx => ?_,by omega,q4⟩
     rw [Bool.not_eq_true,List.any_eq_false] at q2
     have := q2 x hx
     rw [Bool.not_eq_true,offP_false] at this
     exact this
    ·cases e
theorem known_enter {h : RHarb} {e many other : Int} {nums : List Int} (h1 : (checkH h).2.2 ≠ 0 → e = (checkH h).2.2) (h2 : (checkH h).2.2 = 0 → e = if nums.any (offP 0 (many - 1)) = true then 4 else other) : (knownR h e).2 = enterE h many other nums := by
 unfold enterE
 by_cases q : (checkH h).2.2 = 0
 ·have h2 := h2 q
  rw [if_neg (by omega)]
  by_cases q1 : nums.any (offP 0 (many - 1)) = true
  ·rw [if_pos q1] at h2 ⊢
   rw [h2,known_err (by decide)]
  ·rw [if_neg q1] at h2 ⊢
   subst h2
   by_cases q2 : e = 0
   ·subst q2
    rw [if_neg (by simp),known_same (hok_check q)]
   ·rw [if_pos q2,known_err q2]
 ·rw [if_pos q,h1 q,known_err q]
def allS (h : RHarb) (L : List (List Fate)) (i : Nat) : Bool := L.all fun x => sinksB h (fun k => x[k]!) i
def someS (h : RHarb) (L : List (List Fate)) (i : Nat) : Bool := L.any fun x => sinksB h (fun k => x[k]!) i
theorem setOf_and (f g : Nat → Bool) (n : Nat) : setOf f n &&& setOf g n = setOf (fun i => f i && g i) n := by
 refine Nat.eq_of_testBit_eq fun i => ?_
 rw [Nat.testBit_and,setOf_bit,setOf_bit,setOf_bit]
 cases decide (i < n) <;> simp
theorem setOf_or (f g : Nat → Bool) (n : Nat) : setOf f n ||| setOf g n = setOf (fun i => f i || g i) n := by
 refine Nat.eq_of_testBit_eq fun i => ?_
 rw [Nat.testBit_or,setOf_bit,setOf_bit,setOf_bit]
 cases decide (i < n) <;> simp
theorem setOf_true (n : Nat) : setOf (fun _ => true) n = 2 ^ n - 1 := by
 refine Nat.eq_of_testBit_eq fun i => ?_
 rw [setOf_bit,Nat.testBit_two_pow_sub_one]; simp
theorem setOf_false (n : Nat) : setOf (fun _ => false) n = 0 := by
 refine Nat.eq_of_testBit_eq fun i => ?_
 rw [setOf_bit]; simp
theorem allS_snoc (h : RHarb) (L : List (List Fate)) (x : List Fate) (n : Nat) : setOf (allS h (L ++ [x])) n = setOf (allS h L) n &&& lostS h (fun k => x[k]!) n := by
 unfold lostS
 rw [setOf_and]
 refine setOf_ext fun i _ => ?_
 simp [allS]
theorem someS_snoc (h : RHarb) (L : List (List Fate)) (x : List Fate) (n : Nat) : setOf (someS h (L ++ [x])) n = setOf (someS h L) n ||| lostS h (fun k => x[k]!) n := by
 unfold lostS
 rw [setOf_or]
 refine setOf_ext fun i _ => ?_
 simp [someS]
theorem mem_lostL {h : RHarb} {l : List Fate} {n s : Nat} : (s : Int) ∈ lostL h l n ↔ s < n ∧ sinksB h (fun k => l[k]!) s = true := by
 unfold lostL sinksB
 simp only [List.mem_map,List.mem_filter,List.mem_range]
 constructor
 ·rintro ⟨j,⟨h1,h2⟩,h3⟩
  have : j = s := by omega
  subst this; exact ⟨h1,h2⟩
 ·rintro ⟨h1,h2⟩; exact ⟨s,⟨h1,h2⟩,rfl⟩
theorem sinkN_is (h : RHarb) (l : List RTru) (s : Nat) : ∀ n,(sinkN h l s n = (n : Int) ↔ ∀ i,i < n → (s : Int) ∈ lostL h (l[i]!).fleet (l[i]!).fleet.length) ∧ (0 < sinkN h l s n ↔ ∃ i,i < n ∧ (s : Int) ∈ lostL h (l[i]!).fleet (l[i]!).fleet.length)
 | 0 => by simp [sinkN]
 | n + 1 => by
  obtain ⟨h1,h2⟩ := sinkN_is h l s n
  have hle := sinkN_le h l s n
  unfold sinkN
  by_cases q : (s : Int) ∈ lostL h (l[n]!).fleet (l[n]!).fleet.length
  ·rw [if_pos q]
   refine ⟨⟨fun e i hi => ?_,fun e => ?_⟩,⟨fun _ => ⟨n,by omega,q⟩,fun _ => by omega⟩⟩
   ·by_cases e2 : i = n
    ·subst e2; exact q
    ·exact h1.1 (by omega) i (by omega)
   ·have := h1.2 fun i hi => e i (by omega)
    omega
  ·rw [if_neg q]
   refine ⟨⟨fun e => by omega,fun e => absurd (e n (by omega)) q⟩,⟨fun e => ?_,?_⟩⟩
   ·obtain ⟨i,hi,hp⟩ := h2.1 (by omega)
    exact ⟨i,by omega,hp⟩
   ·rintro ⟨i,hi,hp⟩
    have : i ≠ n := by rintro rfl; exact q hp
    have := h2.2 ⟨i,by omega,hp⟩
    omega
theorem same_all {h : RHarb} {L : List (List Fate)} (g : Same h L) (P : RTru → Prop) : (∀ i,i < (truthsR h []).length → P ((truthsR h [])[i]!)) ↔ ∀ x ∈ L,P (truOf h [] x) := by
 constructor
 ·intro q x hx
  obtain ⟨i,hi,e⟩ := List.getElem_of_mem (g.b x hx)
  have := q i hi
  rw [getD_any hi,e] at this
  exact this
 ·intro q i hi
  obtain ⟨x,hx,e⟩ := g.a _ (at_mem hi)
  rw [e]; exact q x hx
theorem same_ex {h : RHarb} {L : List (List Fate)} (g : Same h L) (P : RTru → Prop) : (∃ i,i < (truthsR h []).length ∧ P ((truthsR h [])[i]!)) ↔ ∃ x ∈ L,P (truOf h [] x) := by
 constructor
 ·rintro ⟨i,hi,hp⟩
  obtain ⟨x,hx,e⟩ := g.a _ (at_mem hi)
  rw [e] at hp; exact ⟨x,hx,hp⟩
 ·rintro ⟨x,hx,hp⟩
  obtain ⟨i,hi,e⟩ := List.getElem_of_mem (g.b x hx)
  exact ⟨i,hi,by rw [getD_any hi,e]; exact hp⟩
theorem sunk_same {h : RHarb} {L : List (List Fate)} (g : Same h L) : listTo (setOf (allS h L) h.ships.length) h.ships.length = sureTo h (truthsR h []) h.ships.length ∧ listTo (setOf (someS h L) h.ships.length) h.ships.length = mayTo h (truthsR h []) h.ships.length := by
 have hlen : ∀ x ∈ L,(truOf h [] x).fleet.length = h.ships.length := fun x hx => (g.fok x hx).n
 constructor
 ·unfold listTo sureTo
  congr 1
  refine List.filter_congr fun s hs => ?_
  have hs' := List.mem_range.1 hs
  rw [setOf_bit,decide_eq_true hs',Bool.true_and,Bool.eq_iff_iff,decide_eq_true_eq,(sinkN_is h _ s _).1,same_all g (fun t => (s : Int) ∈ lostL h t.fleet t.fleet.length)]
  unfold allS
  rw [List.all_eq_true]
  constructor
  ·intro q x hx; rw [mem_lostL,hlen x hx]; exact ⟨hs',q x hx⟩
  ·intro q x hx; exact (mem_lostL.1 (q x hx)).2
 ·unfold listTo mayTo
  congr 1
  refine List.filter_congr fun s hs => ?_
  have hs' := List.mem_range.1 hs
  rw [setOf_bit,decide_eq_true hs',Bool.true_and,Bool.eq_iff_iff,decide_eq_true_eq,(sinkN_is h _ s _).2,same_ex g (fun t => (s : Int) ∈ lostL h t.fleet t.fleet.length)]
  unfold someS
  rw [List.any_eq_true]
  constructor
  ·rintro ⟨x,hx,q⟩; exact ⟨x,hx,by rw [mem_lostL,hlen x hx]; exact ⟨hs',q⟩⟩
  ·rintro ⟨x,hx,q⟩; exact ⟨x,hx,(mem_lostL.1 q).2⟩
theorem sunkR_err {h : RHarb} : (sunkR h).2.2 = enterE h 0 0 [] := by
 have : (knownR h (checkH h).2.2).2 = enterE h 0 0 [] := known_enter (fun _ => rfl) (fun q => by rw [q]; simp)
 rw [← this]
 unfold sunkR
 split
 ·rename_i q; exact q.symm
 ·rfl
theorem sunkR_bad {h : RHarb} (e : (sunkR h).2.2 ≠ 0) : sunkR h = ([],[],(sunkR h).2.2) := by
 unfold sunkR at e ⊢
 split at e
 ·exact absurd rfl e
 ·rename_i q; rw [if_neg q]
theorem sunkR_good {h : RHarb} (e : (sunkR h).2.2 = 0) : sunkR h = (sureTo h (truthsR h []) h.ships.length,mayTo h (truthsR h []) h.ships.length,0) := by
 unfold sunkR at e ⊢
 split at e
 ·rename_i q
  obtain ⟨k1,k2,k3⟩ := known_zero q
  rw [if_pos q,k2]
 ·rename_i q; exact absurd e q
theorem sunk_top (h : RHarb) (hs : hnamesFit h) : PCall Try.prog 45 [harbA h] (.tuple [ints (sunkR h).1,ints (sunkR h).2.1,.int .i64 (sunkR h).2.2]) := by
 intro m
 refine ACall.forget ?_
 have hen := fun m => enter_c h hs 0 0 [] (fun q => by omega) m
 have hE := sunkR_err (h := h)
 have hbad := sunkR_bad (h := h)
 have hgood := sunkR_good (h := h)
 generalize sunkR h = R at *
 simp only [harbA,harbL,ints,List.map_nil] at hen ⊢
 (refine acall_intro (E := envC (modeAt [8] [5,6,7]) false []) (envCOk _ _ _) rfl Try.func45 rfl Try.call45 (by kernel_rfl) (by simp [Try.ntmps45]) ?_; simp only [Try.f45];  simp(maxSteps:=9^9)only[↓VX,VQ,seval])
 refine ACall.told (hen _) ?_
 rintro r m1 ⟨kk,⟨hz,rfl⟩ | ⟨hz,bm,hbm,rfl,hkn⟩⟩
 ·rw [← hE] at hz
  have hb := hbad hz
  rw [← hE]
  generalize R.2.2 = e at *
  subst hb
  simp(maxSteps:=9^9)only[↓VX,VQ,seval]
  intro b5 hb5
  simp(maxSteps:=9^9)only[↓VX,VQ,seval,hz]
  exact ⟨m,fun b x hx => by rw [if_neg (ne_of_some (kk b x (fun h => h) hx) hb5),if_neg (ne_of_some (kk b x (fun h => h) hx) hb5)]; exact kk b x (fun h => h) hx,rfl⟩
 ·obtain ⟨z1,z2,z3,z4⟩ := enter_zero hz
  have hh := hok_check z1
  have h3 := hh.n
  have hR := hgood (by rw [hE]; exact hz)
  have htr := truthsF_c h 0 bm
  have hbn : ∃ y,m1 bm = some y := by obtain ⟨ls,k1,k2⟩ := hkn; exact ⟨_,k2⟩
  obtain ⟨yb,hbn⟩ := hbn
  have ht1 := fun (l : Nat) (S : Nat → Prop) (J : List (List Fate) → Mem → Prop) (F : Mem → Prop) (hy : YTok h 0 bm l S J F) (m : Mem) => truths1_c h hh 0 (by decide) bm hy m
  have hlost := fun (x : List Fate) => lost_c h hh 0 bm (fun k => x[k]!)
  have hlist := fun s (q : s < 2 ^ 62) => list_c s h.ships.length q (by omega)
  have hp : (2 : Nat) ^ h.ships.length ≤ 2 ^ 3 := Nat.pow_le_pow_right (by decide) h3
  have hp1 : (1 : Nat) ≤ 2 ^ h.ships.length := Nat.one_le_two_pow
  simp only [lookedL,fleetA,Int.natCast_zero,ints] at htr hlost hlist ⊢
  subst hR
  clear hen hbad hgood
  simp(maxSteps:=9^9)only[↓VX,VQ,seval]
  intro b5 hb5
  repeat'(first|intro _|apply And.intro)
  all_goals try omega
  rename_i b6 hb6 b7 hb7
  have n65 : b6 ≠ b5 := by rintro rfl; simp at hb6
  have hb6' : m1 b6 = none := by simpa [n65] using hb6
  have n76 : b7 ≠ b6 := by rintro rfl; simp at hb7
  have n75 : b7 ≠ b5 := by rintro rfl; simp [n76] at hb7
  have hb7' : m1 b7 = none := by simpa [n76,n75] using hb7
  have n5 := ne_of_some hbn hb5
  have n6 := ne_of_some hbn hb6'
  have n7 := ne_of_some hbn hb7'
  simp(maxSteps:=9^9)only[↓VX,VQ,seval,n65,n76,n75,n65.symm,n76.symm,n75.symm]
  repeat'(first|intro _|apply And.intro)
  refine ACall.pure htr ?_
  simp(maxSteps:=9^9)only[↓VX,VQ,seval]
  refine arange rfl (f := 80) (first := []) (caps := [.eptr [.eptr (lookedL h 0 bm)]]) (by simp(maxSteps:=9^9)only[↓VX,VQ,seval,lookedL,Int.natCast_zero]) ?_
  intro l hl
  have hl7 : l ≠ b7 := by rintro rfl; simp [upd,n76,n75] at hl
  have hl6 : l ≠ b6 := by rintro rfl; simp [upd,n65,n76.symm] at hl
  have hl5 : l ≠ b5 := by rintro rfl; simp [upd,n65.symm,n75.symm] at hl
  have hl0 : m1 l = none := by simpa [upd,hl7,hl6,hl5] using hl
  have nl := ne_of_some hbn hl0
  generalize hR : LoopA.mk _ _ _ _ _ = R
  have hyok : YTok h 0 bm l (fun k => k = l ∨ k = b5 ∨ k = b6 ∨ k = b7) (fun pre m2 => m2 l = some (.loop .ready none R) ∧ m2 b5 = some (.cells [.eptr (lookedL h 0 bm)]) ∧ m2 b6 = some (.cells [.int .i64 (setOf (allS h pre) h.ships.length : Nat)]) ∧
    m2 b7 = some (.cells [.int .i64 (setOf (someS h pre) h.ships.length : Nat)])) (fun _ => False) := by
   refine ⟨fun pre x m2 hn hx hin ok hk hJ => ?_,fun pre m2 m3 hJ hs => ?_⟩
   ·obtain ⟨j3,j5,j6,j7⟩ := hJ
    subst hR
    refine ayield (E := envC (modeAt [8] [5,6,7]) true []) (envCOk _ _ _) rfl j3 rfl (by rfl) (by rfl) (by rfl) ?_
    have hfl := fleetL_length fun i => x[i]!
    have hff := fleetL_flat fun i => x[i]!
    have hft := fleetL_take fun i => x[i]!
    have ha1 := allS_snoc h pre x h.ships.length
    have ha2 := someS_snoc h pre x h.ships.length
    have hv1 := setOf_lt (allS h pre) h.ships.length
    have hv2 := setOf_lt (someS h pre) h.ships.length
    have hv3 : lostS h (fun k => x[k]!) h.ships.length < 2 ^ h.ships.length := setOf_lt _ _
    have hl1 := hlost x
    simp only [lookedL,Int.natCast_zero] at j5
    generalize lostS h (fun k => x[k]!) h.ships.length = V at *
    generalize setOf (allS h pre) h.ships.length = A at *
    generalize setOf (someS h pre) h.ships.length = B at *
    simp(maxSteps:=9^9)only[↓VX,VQ,seval,j3,j5,keyA,fleetA,hfl,hff,hft,hl5,hl5.symm,hl6,hl6.symm,hl7,hl7.symm]
    repeat'(first|intro _|apply And.intro)
    refine ACall.pure hl1 ?_
    simp(maxSteps:=9^9)only[↓VX,VQ,seval,j3,j5,j6,j7,hfl,hff,hft,hl5,hl5.symm,hl6,hl6.symm,hl7,hl7.symm,n65,n65.symm,n75,n75.symm,n76,n76.symm]
    repeat'(first|intro _|apply And.intro)
    all_goals try omega
    ·exact ⟨fun k y hq hy => by simp only [not_or] at hq; simp only [upd,if_neg hq.1,if_neg hq.2.1,if_neg hq.2.2.1,if_neg hq.2.2.2]; exact hy⟩
    ·rw [ha1,ha2]
     simp only [lookedL,Int.natCast_zero]
     exact .inl ⟨trivial,trivial,trivial⟩
   ·obtain ⟨j3,j5,j6,j7⟩ := hJ
    exact ⟨by rw [hs l (.inl rfl)]; exact j3,by rw [hs b5 (.inr (.inl rfl))]; exact j5,by rw [hs b6 (.inr (.inr (.inl rfl)))]; exact j6,by rw [hs b7 (.inr (.inr (.inr rfl)))]; exact j7⟩
  have hdom : ∀ k y,m1 k = some y → k ≠ l ∧ k ≠ b5 ∧ k ≠ b6 ∧ k ≠ b7 := fun k y hy => ⟨ne_of_some hy hl0,ne_of_some hy hb5,ne_of_some hy hb6',ne_of_some hy hb7'⟩
  refine ACall.mono (ht1 l _ _ _ hyok _ ?_ ?_ ?_ ?_) ?_ <;> (try dsimp only)
  ·obtain ⟨ls,k1,k2⟩ := hkn
   exact ⟨ls,k1,by simp [upd,nl,n5,n6,n7]; exact k2⟩
  ·rintro k (rfl | rfl | rfl | rfl)
   ·simp [upd]
   ·simp [upd,hl5.symm,n65.symm,n75.symm]
   ·simp [upd,hl6.symm,n76.symm]
   ·simp [upd,hl7.symm,n76]
  ·rintro (e | e | e | e)
   ·exact nl e
   ·exact n5 e
   ·exact n6 e
   ·exact n7 e
  ·refine ⟨upd_same _ _ _,by simp [upd,hl5.symm,n65.symm,n75.symm,lookedL],?_,?_⟩
   ·rw [show allS h [] = fun _ => true from rfl,setOf_true]
    rw [show ((2 ^ h.ships.length - 1 : Nat) : Int) = ((2 ^ h.ships.length : Nat) : Int) - 1 by omega]
    simp only [upd,hl6.symm,n76.symm,n65.symm,↓reduceIte]
   ·rw [show someS h [] = fun _ => false from rfl,setOf_false]
    simp [upd,hl7.symm,n76]
  ·rintro r m' ⟨k1,k2,k3⟩
   have kk2 : ∀ k y,m k = some y → m' k = some y ∧ k ≠ l := by
    intro k y hy
    have hy1 := kk k y (fun h => h) hy
    obtain ⟨a1,a2,a3,a4⟩ := hdom k y hy1
    have a5 : k ≠ bm := ne_of_some hy hbm
    exact ⟨k1 k y (by rintro ((e | e | e | e) | e); exact a1 e; exact a2 e; exact a3 e; exact a4 e; exact a5 e) (by simp [upd,a1,a2,a3,a4]; exact hy1),a1⟩
   clear ht1 hyok
   rcases k3 with ⟨L,⟨j3,j5,j6,j7⟩,g⟩ | hF
   ·obtain ⟨s1,s2⟩ := sunk_same (given_same hh g)
    have hv1 := setOf_lt (allS h L) h.ships.length
    have hv2 := setOf_lt (someS h L) h.ships.length
    have hl1 := hlist (setOf (allS h L) h.ships.length) (by omega)
    have hl2 := hlist (setOf (someS h L) h.ships.length) (by omega)
    rw [s1] at hl1
    rw [s2] at hl2
    simp(maxSteps:=9^9)only[↓VX,VQ,seval,j3,j6,j7,hl6,hl6.symm,hl7,hl7.symm]
    (refine adraw (by first | exact envOk _ | exact envCOk _ _ _) mixed [⟨false,false,0⟩,⟨false,false,0⟩,⟨false,false,0⟩,⟨false,false,0⟩,⟨false,false,0⟩,⟨false,false,0⟩,⟨false,false,0⟩,⟨false,false,0⟩,⟨false,false,0⟩,⟨false,false,0⟩,⟨false,false,0⟩,⟨false,false,0⟩,⟨false,false,0⟩] (by kernel_rfl) ?_; show vcOpsD _ _ _ (_ :: _) _ _)
    simp(maxSteps:=9^9)only[↓VX,VQ,seval,j6,j7,hl6,hl6.symm,hl7,hl7.symm]
    repeat'(first|intro _|apply And.intro)
    refine VPure.of hl1 ?_
    simp(maxSteps:=9^9)only[↓VX,VQ,seval,j6,j7,hl6,hl6.symm,hl7,hl7.symm]
    repeat'(first|intro _|apply And.intro)
    refine VPure.of hl2 ?_
    simp(maxSteps:=9^9)only[↓VX,VQ,seval,j6,j7,hl6,hl6.symm,hl7,hl7.symm]
    refine ⟨m,fun k y hy => ?_,rfl⟩
    obtain ⟨e1,e2⟩ := kk2 k y hy
    simp only [if_neg e2]
    exact e1
   ·exact hF.elim
def cnt {α : Type} (p : α → Bool) (D : List α) : Int := ((D.filter p).length : Nat)
def rowE (h : RHarb) (k : Nat) (t : RTru) : List Int := (t.by_[k]!).map fun s => dayR h t.fleet s.toNat (h.letters[k]!).port
end Go.Proofs.Ytikodjpbknneoaa.Abs
