/- The statement ReplyHeard: for any book,report,answer and letter the law returns true. Conditions: none. -/
import Derived.Test.YtnfmmhmfbipkjaaGreatU15
import Derived.Test.YtnfmmhmfbipkjaaGreatU14
namespace Go.Proofs.YtnfmmhmfbipkjaaGreat.Abs
set_option linter.unusedSimpArgs false
set_option maxHeartbeats 4000000
set_option maxRecDepth 100000
open Go Go.RowKit Go.Proofs

/-- What is held of the first ships: all their days are within. -/
def JOk (f : Int → (Int × Int) × Int × Int) (B : List Int) (n : Nat) (L M : Int) (C : Bool) : Prop := ∀ j,j < n → (f (B[j]!)).2.1 ≠ 2 → C = true ∧ L ≤ (f (B[j]!)).1.1 ∧ (f (B[j]!)).1.2 ≤ M
theorem jok_skip {f : Int → (Int × Int) × Int × Int} {B : List Int} {n : Nat} {L M : Int} {C : Bool} (h : JOk f B n L M C) (e : (f (B[n]!)).2.1 = 2) : JOk f B (n + 1) L M C := fun j hj q => by
 by_cases w : j = n
 ·subst w; exact absurd e q
 ·exact h j (by omega) q
theorem jok_take {f : Int → (Int × Int) × Int × Int} {B : List Int} {n : Nat} {L M : Int} {C : Bool} (h : JOk f B n L M C) : JOk f B (n + 1) (min L (f (B[n]!)).1.1) (max M (f (B[n]!)).1.2) true := fun j hj q => by
 by_cases w : j = n
 ·subst w; exact ⟨rfl,by omega,by omega⟩
 ·obtain ⟨_,h1,h2⟩ := h j (by omega) q
  exact ⟨rfl,by omega,by omega⟩
theorem heard_days {b : RBook} (q : (checkB b).2.2 = 0) {k : Nat} (hk : k < b.harb.letters.length) {L M : Int} {C : Bool} (J : JOk (fun s => callsR b.harb s (b.harb.letters[k]!).port) (byR b.harb k).1 (byR b.harb k).1.length L M C) : (cameR b k).2.1 ≠ 2 → C = true ∧ L ≤ (cameR b k).1.lo ∧ (cameR b k).1.hi ≤ M := by
 intro h
 obtain ⟨_,l2⟩ := came_law q hk
 obtain ⟨⟨s,_,s2,s3,s4⟩,⟨r,_,r2,r3,r4⟩⟩ := l2 h
 obtain ⟨i,hi,ei⟩ := List.mem_iff_getElem.1 s2
 obtain ⟨j,hj,ej⟩ := List.mem_iff_getElem.1 r2
 have h1 := J i hi
 have h2 := J j hj
 rw [getD_any hi,ei] at h1
 rw [getD_any hj,ej] at h2
 obtain ⟨g1,g2,_⟩ := h1 s3
 obtain ⟨_,_,g3⟩ := h2 r3
 exact ⟨g1,Int.le_trans g2 s4,Int.le_trans r4 g3⟩
theorem by_calls {b : RBook} (q : (checkB b).2.2 = 0) {k : Nat} (hk : k < b.harb.letters.length) {j : Nat} (hj : j < (byR b.harb k).1.length) : (callsR b.harb ((byR b.harb k).1[j]!) (b.harb.letters[k]!).port).2.2 = 0 := by
 have hsm := b_some q
 have hm : (byR b.harb k).1[j]! ∈ (byR b.harb k).1 := by rw [getD_any hj]; exact List.getElem_mem hj
 generalize (byR b.harb k).1[j]! = v at *
 rw [byR_some hsm hk] at hm
 obtain ⟨s,rfl,s2,_⟩ := mem_met.1 hm
 rw [callsR_some hsm s2 ((bok_check q).h.letter k hk).1]
theorem by_ok {b : RBook} (q : (checkB b).2.2 = 0) {k : Nat} (hk : k < b.harb.letters.length) : (byR b.harb k).2 = 0 ∧ (byR b.harb k).1.length ≤ 3 := by
 have hn := (bok_check q).h.n
 rw [byR_some (b_some q) hk]
 refine ⟨rfl,?_⟩
 show (((List.range _).filter _).map _).length ≤ 3
 rw [List.length_map]
 refine Nat.le_trans (List.length_filter_le _ _) ?_
 rw [List.length_range]; exact hn

theorem replyHeard_no (b : RBook) (hs : hnamesFit b.harb) (r : RRep) (x y : Nat) (e : ¬ (checkB b).2.2 = 0) : PCall Tryz.prog 14 [bookA b,repA r,.agg [.int .u8 x,.int .u8 y]] (.bool true) := by
 intro m
 have v1 := valid6_c b hs
 have aw := awake_c
 rw [decide_eq_false e] at v1
 simp only [bookA,bookL,harbL,List.cons_append,List.nil_append,ints,repA] at *
 (refine acall_intro (E := envC (modeAt [8,17,20] []) false []) (envCOk _ _ _) rfl Tryz.func14 rfl Tryz.call14 (by kernel_rfl) (by simp [Tryz.ntmps14]) ?_; simp only [Tryz.f14];  simp(maxSteps:=9^9)only[↓VX,VQ,seval,Int.reduceEq])
 ((refine ACall.pure (v1) ?_; try simp(maxSteps:=9^9)only[↓VX,VQ,seval]); try simp(maxSteps:=9^9)only[↓VX,VQ,seval,GL])
 ((refine ACall.pure (aw) ?_; try simp(maxSteps:=9^9)only[↓VX,VQ,seval]); try simp(maxSteps:=9^9)only[↓VX,VQ,seval,GL])

theorem replyHeard_ok (b : RBook) (hs : hnamesFit b.harb) (r : RRep) (x y : Nat) (hx : x < 256) (hy : y < 256) (e : (checkB b).2.2 = 0) : PCall Tryz.prog 14 [bookA b,repA r,.agg [.int .u8 x,.int .u8 y]] (.bool true) := by
 intro m
 have hb := bok_check e
 have hnn := hb.n
 have hwn := hb.w
 have hnr := hb.h.nr
 have hnl := hb.h.nl
 have hpp := hb.h.p
 have v1 := valid6_c b hs
 rw [decide_eq_true e] at v1
 have v2 := valid6_c (heardB b r) hs
 have aw := awake_c
 have law := heard_law (b := b) (r := r) e
 have d1 := first_top b hs
 have d2 := first_top (heardB b r) hs
 have hlr := least_range hb
 have hlr2 := fun q => least_range (b := heardB b r) (bok_check q)
 have f2 := fun q => first_ok (b := heardB b r) q
 rw [first_ok e] at d1
 have hmodA := natMod x b.answers.length
 have hA := fun q : 0 < b.answers.length => Nat.mod_lt x q
 generalize x % b.answers.length = a at *
 have hmodK := natMod y b.words.length
 have hK := fun q : 0 < b.words.length => Nat.mod_lt y q
 generalize y % b.words.length = k at *
 have c1 := could_top b hs a
 have c2 := could_top (heardB b r) hs a
 have sb := subset6_c (couldR (heardB b r) a).1 (couldR b a).1
 have k1 := came_top b hs k
 have k2 := by_top b.harb hs k
 have k3 := fun s : Int => calls_top b.harb hs s (b.harb.letters[k]!).port ⟨by omega,by omega⟩
 have k4 := fun q : k < b.harb.letters.length => (came_law e q).1
 have k5 := fun q : k < b.harb.letters.length => by_ok e q
 have k6 := fun (q : k < b.harb.letters.length) (j : Nat) => by_calls e q (j := j)
 have k7 := fun (q : k < b.harb.letters.length) (L M : Int) (C : Bool) => heard_days e q (L := L) (M := M) (C := C)
 have law2 := fun q => (law q).2 a
 have law1 := fun q => (law q).1
 clear law
 have eb : bookA (heardB b r) = .agg (harbL { b.harb with reports := b.harb.reports ++ [r] } ++ [ints b.words,.int .i64 b.back,.slice 3 (b.answers.map ansA)]) := rfl
 rw [eb] at v2 d2 c2
 clear eb
 generalize checkB (heardB b r) = CH at *
 generalize firstR (heardB b r) = F2 at *
 generalize couldR b a = C1 at *
 generalize couldR (heardB b r) a = C2 at *
 generalize bestR b = B1 at *
 generalize leastR b = L1 at *
 generalize leastR (heardB b r) = L2 at *
 generalize cameR b k = CA at *
 generalize byR b.harb k = BY at *
 generalize hCR : (fun s => callsR b.harb s (b.harb.letters[k]!).port) = CR at *
 have k3 : ∀ s : Int,PCall Tryz.prog 49 [harbA b.harb,.int .i64 s,.int .i64 (b.harb.letters[k]!).port] (.tuple [.agg [.int .i64 (CR s).1.1,.int .i64 (CR s).1.2],.int .i64 (CR s).2.1,.int .i64 (CR s).2.2]) := by
  intro s; rw [← hCR]; exact k3 s
 have k6 : ∀ (q : k < b.harb.letters.length) (j : Nat),j < BY.1.length → (CR (BY.1[j]!)).2.2 = 0 := by
  intro q j hj; rw [← hCR]; exact k6 q j hj
 clear hCR
 simp only [bookA,bookL,harbA,harbL,List.cons_append,List.nil_append,ints,List.map_append,List.map_cons,List.map_nil,repA] at *
 (refine acall_intro (E := envC (modeAt [8,17,20] []) false []) (envCOk _ _ _) rfl Tryz.func14 rfl Tryz.call14 (by kernel_rfl) (by simp [Tryz.ntmps14]) ?_; simp only [Tryz.f14];  simp(maxSteps:=9^9)only[↓VX,VQ,seval,Int.reduceEq])
 (refine ACall.pure (v1) ?_; try simp(maxSteps:=9^9)only[↓VX,VQ,seval,GL,hmodK])
 repeat'(first|intro _|apply And.intro)
 all_goals try first|omega|(simp only[LL];omega)|exact nlC (by decide) _|exact nbC rfl
 ·have hk : k < b.words.length := hK (by omega)
  have hkl : k < b.harb.letters.length := by omega
  obtain ⟨g1,g2⟩ := k5 hkl
  have k4 := k4 hkl
  have k6 := k6 hkl
  have k7 := k7 hkl
  clear k5
  rw [k4] at k1
  rw [g1] at k2
  generalize hBL : BY.1 = BL at *
  (refine ACall.pure (k1) ?_; try simp(maxSteps:=9^9)only[↓VX,VQ,seval,GL,hmodK])
  ((refine ACall.pure (k2) ?_; try simp(maxSteps:=9^9)only[↓VX,VQ,seval]); try simp(maxSteps:=9^9)only[↓VX,VQ,seval,GL])
  repeat'(first|intro _|apply And.intro)
  all_goals try first|omega|(simp only[LL];omega)|exact nlC (by decide) _|exact nbC rfl
  refine aloop (envCOk _ _ _) (fun q : Nat × Int × Int × Bool => ⟨[(3,.v (.eptr [.int .i64 b.harb.ports,.int .i64 b.harb.lost,.slice 5 (b.harb.ships.map shipA),.slice 3 (b.harb.letters.map letA),.slice 4 (b.harb.reports.map repA),.slice 1 (b.words.map (AV.int .i64)),.int .i64 b.back,.slice 3 (b.answers.map ansA)])),(4,.v (.eptr [.int .i64 r.kind,.int .i64 r.of_,.int .i64 r.port,.int .i64 r.day])),(5,.v (.eptr [.int .u8 x,.int .u8 y])),(7,.v (.int .i64 k)),(8,.loc 8 0),(9,.v (.int .i64 CA.2.1)),(11,.v (.slice 1 (BL.map (AV.int .i64)))),(13,.v (.int .i64 q.2.1)),(14,.v (.int .i64 q.2.2.1)),(15,.v (.bool q.2.2.2)),(16,.v (.int .i64 q.1))],[],[(8,[.int .i64 CA.1.lo,.int .i64 CA.1.hi])],m⟩)
   (fun q => q.1 ≤ BL.length ∧ JOk CR BL q.1 q.2.1 q.2.2.1 q.2.2.2) (fun q => BL.length - q.1) (0,60,0,false) (fun _ => rfl) ⟨by simp,fun j hj => absurd hj (by simp)⟩ (by (simp only [FE,↓FP,seval]); try simp) ?_
  rintro ⟨i,L,M,C⟩ ⟨hi,hJ⟩
  dsimp only at hi hJ ⊢
  have k3i := k3 (BL[i]!)
  have k6i := k6 i
  simp(maxSteps:=9^9)only[↓VX,VQ,seval]
  repeat'(first|intro _|apply And.intro)
  all_goals try first|omega|(simp only[LL];omega)|exact nlC (by decide) _|exact nbC rfl
  ·have hil : i < BL.length := by omega
   have k6i := k6i hil
   rw [k6i] at k3i
   have hskip := fun e => jok_skip (n := i) hJ e
   have htake := jok_take (n := i) hJ
   generalize CR (BL[i]!) = CV at *
   (refine adraw (by first | exact envOk _ | exact envCOk _ _ _) mixed [⟨true,false,0⟩,⟨true,false,0⟩,⟨true,false,0⟩,⟨true,false,0⟩,⟨true,false,0⟩,⟨true,false,0⟩,⟨true,false,0⟩,⟨true,false,0⟩,⟨true,false,0⟩,⟨true,false,0⟩,⟨true,false,0⟩,⟨true,false,0⟩,⟨true,false,0⟩,⟨true,false,0⟩,⟨true,false,0⟩,⟨true,false,0⟩,⟨true,false,0⟩,⟨true,false,0⟩,⟨false,false,0⟩,⟨false,false,0⟩,⟨false,false,0⟩,⟨false,false,0⟩] (by kernel_rfl) ?_; show vcOpsD _ _ _ (_ :: _) _ _)
   simp(maxSteps:=9^9)only[↓VX,VQ,seval,hmodK]
   repeat'(first|intro _|apply And.intro)
   all_goals try first|omega|(simp only[LL];omega)|exact nlC (by decide) _|exact nbC rfl
   refine VPure.of k3i ?_
   simp(maxSteps:=9^9)only[↓VX,VQ,seval]
   repeat'(first|intro _|apply And.intro)
   all_goals try first|omega|(simp only[LL];omega)|exact nlC (by decide) _|exact nbC rfl
   ·(refine adraw (by first | exact envOk _ | exact envCOk _ _ _) mixed [⟨false,false,0⟩,⟨false,false,0⟩,⟨false,false,0⟩,⟨false,false,0⟩,⟨false,false,0⟩,⟨false,false,0⟩,⟨false,false,0⟩,⟨false,false,0⟩,⟨false,false,0⟩,⟨false,false,0⟩,⟨false,false,0⟩] (by kernel_rfl) ?_; show vcOpsD _ _ _ (_ :: _) _ _)
    simp(maxSteps:=9^9)only[↓VX,VQ,seval]
    repeat'(first|intro _|apply And.intro)
    all_goals try first|omega|(simp only[LL];omega)|exact nlC (by decide) _|exact nbC rfl
    refine ⟨(i + 1,min L CV.1.1,max M CV.1.2,true),⟨by dsimp only; omega,htake⟩,by dsimp only; omega,?_⟩
    (simp only [FE,↓FP,seval])
    simp
   ·refine ⟨(i + 1,L,M,C),⟨by dsimp only; omega,hskip (by first | assumption | (apply Decidable.byContradiction; assumption))⟩,by dsimp only; omega,?_⟩
    (simp only [FE,↓FP,seval])
    simp
  all_goals
   have hie : i = BL.length := by omega
   subst hie
   have k7 := k7 L M C hJ
  all_goals try (exfalso; have k7 := k7 (by assumption); simp_all; omega)
  all_goals try (exfalso; have k7 := k7 (by assumption); simp_all; done)
  all_goals
   (refine adraw (by first | exact envOk _ | exact envCOk _ _ _) mixed [⟨false,false,0⟩,⟨false,false,0⟩,⟨false,false,0⟩,⟨false,false,0⟩,⟨false,true,0⟩,⟨false,false,0⟩,⟨false,false,0⟩,⟨false,true,0⟩,⟨false,false,0⟩,⟨false,false,0⟩,⟨false,false,0⟩] (by kernel_rfl) ?_; show vcOpsD _ _ _ (_ :: _) _ _)
   simp(maxSteps:=9^9)only[↓VX,VQ,seval]
   repeat'(first|intro _|apply And.intro)
   all_goals try first|omega|(simp only[LL];omega)|exact nlC (by decide) _|exact nbC rfl
   ((refine ACall.pure (v2) ?_; try simp(maxSteps:=9^9)only[↓VX,VQ,seval]); try simp(maxSteps:=9^9)only[↓VX,VQ,seval,GL])
   repeat'(first|intro _|apply And.intro)
   all_goals try first|omega|(simp only[LL];omega)|exact nlC (by decide) _|exact nbC rfl
   ·((refine ACall.pure (aw) ?_; try simp(maxSteps:=9^9)only[↓VX,VQ,seval]); try simp(maxSteps:=9^9)only[↓VX,VQ,seval,GL])
   ·have q : CH.2.2 = 0 := by first | assumption | (apply Decidable.byContradiction; assumption)
    rw [f2 q] at d2
    have l1 := law1 q
    have hl2 := hlr2 q
    have l2 := law2 q
    (refine ACall.pure (d1) ?_; try simp(maxSteps:=9^9)only[↓VX,VQ,seval,GL,hmodA])
    (refine ACall.pure (d2) ?_; try simp(maxSteps:=9^9)only[↓VX,VQ,seval,GL,hmodA])
    repeat'(first|intro _|apply And.intro)
    all_goals try first|omega|(simp only[LL];omega)|exact nlC (by decide) _|exact nbC rfl
    ·((refine ACall.pure (aw) ?_; try simp(maxSteps:=9^9)only[↓VX,VQ,seval]); try simp(maxSteps:=9^9)only[↓VX,VQ,seval,GL])
    ·obtain ⟨l3,l4,l5⟩ := l2 (hA (by omega))
     rw [l3] at c1
     rw [l4] at c2
     rw [l5] at sb
     (refine ACall.pure (c1) ?_; try simp(maxSteps:=9^9)only[↓VX,VQ,seval,GL,hmodA])
     (refine ACall.pure (c2) ?_; try simp(maxSteps:=9^9)only[↓VX,VQ,seval,GL,hmodA])
     ((refine ACall.pure (sb) ?_; try simp(maxSteps:=9^9)only[↓VX,VQ,seval]); try simp(maxSteps:=9^9)only[↓VX,VQ,seval,GL])
     ((refine ACall.pure (aw) ?_; try simp(maxSteps:=9^9)only[↓VX,VQ,seval]); try simp(maxSteps:=9^9)only[↓VX,VQ,seval,GL])
 ·(refine adraw (by first | exact envOk _ | exact envCOk _ _ _) mixed [⟨false,false,0⟩,⟨false,false,0⟩,⟨false,false,0⟩,⟨false,false,0⟩,⟨false,true,0⟩,⟨false,false,0⟩,⟨false,false,0⟩,⟨false,true,0⟩,⟨false,false,0⟩,⟨false,false,0⟩,⟨false,false,0⟩] (by kernel_rfl) ?_; show vcOpsD _ _ _ (_ :: _) _ _)
  simp(maxSteps:=9^9)only[↓VX,VQ,seval]
  repeat'(first|intro _|apply And.intro)
  all_goals try first|omega|(simp only[LL];omega)|exact nlC (by decide) _|exact nbC rfl
  ((refine ACall.pure (v2) ?_; try simp(maxSteps:=9^9)only[↓VX,VQ,seval]); try simp(maxSteps:=9^9)only[↓VX,VQ,seval,GL])
  repeat'(first|intro _|apply And.intro)
  all_goals try first|omega|(simp only[LL];omega)|exact nlC (by decide) _|exact nbC rfl
  ·((refine ACall.pure (aw) ?_; try simp(maxSteps:=9^9)only[↓VX,VQ,seval]); try simp(maxSteps:=9^9)only[↓VX,VQ,seval,GL])
  ·have q : CH.2.2 = 0 := by first | assumption | (apply Decidable.byContradiction; assumption)
   rw [f2 q] at d2
   have l1 := law1 q
   have hl2 := hlr2 q
   have l2 := law2 q
   (refine ACall.pure (d1) ?_; try simp(maxSteps:=9^9)only[↓VX,VQ,seval,GL,hmodA])
   (refine ACall.pure (d2) ?_; try simp(maxSteps:=9^9)only[↓VX,VQ,seval,GL,hmodA])
   repeat'(first|intro _|apply And.intro)
   all_goals try first|omega|(simp only[LL];omega)|exact nlC (by decide) _|exact nbC rfl
   ·((refine ACall.pure (aw) ?_; try simp(maxSteps:=9^9)only[↓VX,VQ,seval]); try simp(maxSteps:=9^9)only[↓VX,VQ,seval,GL])
   ·obtain ⟨l3,l4,l5⟩ := l2 (hA (by omega))
    rw [l3] at c1
    rw [l4] at c2
    rw [l5] at sb
    (refine ACall.pure (c1) ?_; try simp(maxSteps:=9^9)only[↓VX,VQ,seval,GL,hmodA])
    (refine ACall.pure (c2) ?_; try simp(maxSteps:=9^9)only[↓VX,VQ,seval,GL,hmodA])
    ((refine ACall.pure (sb) ?_; try simp(maxSteps:=9^9)only[↓VX,VQ,seval]); try simp(maxSteps:=9^9)only[↓VX,VQ,seval,GL])
    ((refine ACall.pure (aw) ?_; try simp(maxSteps:=9^9)only[↓VX,VQ,seval]); try simp(maxSteps:=9^9)only[↓VX,VQ,seval,GL])
theorem replyHeard_c (b : RBook) (hs : hnamesFit b.harb) (r : RRep) (x y : Nat) (hx : x < 256) (hy : y < 256) : PCall Tryz.prog 14 [bookA b,repA r,.agg [.int .u8 x,.int .u8 y]] (.bool true) := by
 by_cases e : (checkB b).2.2 = 0
 ·exact replyHeard_ok b hs r x y hx hy e
 ·exact replyHeard_no b hs r x y e
end Go.Proofs.YtnfmmhmfbipkjaaGreat.Abs

namespace Go.Proofs.YtnfmmhmfbipkjaaGreat
set_option linter.unusedSimpArgs false
open Go Go.RowKit Go.Proofs Abs
set_option maxRecDepth 100000

theorem replyHeard_types : LawTypes Tryz.prog Tryz.f14 [30,87,78] 4 9 := by
 refine ⟨by rw [Tryz.params14],by kernel_rfl,Tryz.underlying4,laid_ok,fun t h => ?_⟩
 simp only [List.mem_cons,List.not_mem_nil,or_false] at h
 rcases h with rfl | rfl | rfl
 ·exact plain30
 ·exact plain87
 ·exact plain78

theorem replyHeard_all (xs : List AV) (h : GoodAll Tryz.prog [30,87,78] xs) : ∃ K : AV → Mem → Prop,ACall Tryz.prog 14 xs (fun _ => .none) K ∧ ∀ r m,K r m → r = .bool true := by
 match xs,h with
 | [a0,a1,a2],⟨⟨l0,g0,h0⟩,⟨l1,g1,h1⟩,⟨l2,g2,h2⟩,_⟩ =>
  obtain ⟨b,hb,e0⟩ := open_book g0
  obtain ⟨r,_,e1⟩ := open_report g1
  obtain ⟨x,y,hx,hy,e2⟩ := open_b2 g2
  rw [h0,e0,h1,e1,h2,e2]
  exact ⟨_,replyHeard_c b hb.names r x y hx hy _,fun r m h => h.1⟩

theorem replyHeard_lifted (os : Os) (started : os.Started) (H : Type) (enc : TypeId × Value → H) :
  ReturnsInHanded {} Tryz.checked os 14 .any (Rows.replyHeardSpec.pre6 enc Tryz.prog Tryz.f14 Rows.replyHeardRow.domain false) (Rows.replyHeardSpec.post enc Tryz.prog Tryz.f14 false true false false) := by
 refine returnsInHanded_of_change_sized (C := Tryz.checked) own_ok started (by kernel_rfl) Tryz.func14
  (ChangeSpec.witness6 (enc := enc) (C := Tryz.checked) false ⟨#[],#[.agg #[.int .i64 0,.int .i64 0,.slice .none 0 0,.slice .none 0 0,.slice .none 0 0,.slice .none 0 0,.int .i64 0,.slice .none 0 0],.agg #[.int .i64 0,.int .i64 0,.int .i64 0,.int .i64 0],.agg #[.int .u8 0,.int .u8 0]],[]⟩ 8 (by kernel_rfl) (by kernel_rfl) (by kernel_rfl) (by kernel_rfl)) ?_
 intro W base args ds gs before hval hW _ hz _
 refine law_contract replyHeard_types rfl (fun ds hds => ?_) replyHeard_all W base args ds gs before hval hW hz
 match ds,hds with
 | [d0,d1,d2],_ => rfl

theorem replyHeard_holds : Rows.ReplyHeardSaid :=
 OpenClaim.holds_of_wide 14 Tryz.f14 rfl rfl rfl rfl rfl rfl rfl ⟨rfl,rfl,rfl,rfl,rfl⟩ rfl rfl rfl rfl rfl (by kernel_rfl) Tryz.func14 (by kernel_rfl)
  (of_decide_eq_true (by kernel_rfl)) (by unfold Func.isWrapper; first | (rw [if_pos (by decide +kernel)]; kernel_rfl) | (rw [if_neg (by decide +kernel)]; exact ⟨rfl,rfl⟩))
  (fun os started H enc _ => replyHeard_lifted os started H enc)
end Go.Proofs.YtnfmmhmfbipkjaaGreat
