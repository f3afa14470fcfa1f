/- Lemmas for the statements of this seat (X38): they hold without conditions beyond those that each one states. -/
import Derived.Test.YtdmejgfcaacdoaaGreatX37
import Derived.Test.YtdmejgfcaacdoaaGreatX14
import Derived.Test.YtdmejgfcaacdoaaGreatX18
import Derived.Test.YtdmejgfcaacdoaaGreatX26
/- Contracts: enter,hear. -/
namespace Go.Proofs.YtdmejgfcaacdoaaGreat.Abs
set_option linter.unusedSimpArgs false
set_option maxHeartbeats 4000000
set_option maxRecDepth 100000
open Go Go.RowKit Go.Proofs
theorem earenter_c (b : REar) (hf : earFit b) (many : Nat) (hm1 : many ≤ 9223372036854775807) (l : List Int) (m : Mem) :
  ACall Tryz.prog 69 [earA b,.int .i64 many,ints l] m fun r m' =>
   (enterE1 b many l ≠ 0 ∧ r = .tuple [.nilptr,.int .i64 (enterE1 b many l)] ∧ m' = m) ∨
   (enterE1 b many l = 0 ∧ EOk b ∧ ∃ bm,m bm = none ∧ r = .tuple [.eptr (bookL b bm),.int .i64 0] ∧ m' bm = some (boxB (lookTo b b.spellings.length)) ∧ KeepS (fun k => k = bm) m m') := by
 have h1 := earcheck_c b hf
 have h2 := beyond_c 0 ((many : Int) - 1) l
 have h3 := fun (h : (checkE b).2.2 = 0) => earlook_c b (eok_check h) m
 have hek := eok_check (b := b)
 obtain ⟨e,he⟩ : ∃ e,e = enterE1 b many l := ⟨_,rfl⟩
 rw [← he]
 unfold enterE1 at he
 generalize checkE b = c at *
 generalize l.any (offP 0 ((many : Int) - 1)) = o at *
 simp only [earA,earL,bookL,ints] at h1 h2 h3 ⊢
 (refine acall_intro (E := env fun _ => .imm) (envOk _) rfl Tryz.func69 rfl Tryz.call69 (by kernel_rfl) (by simp [Tryz.ntmps69]) ?_; simp only [Tryz.f69];  simp(maxSteps:=9^9)only[↓VX,VQ,seval])
 (refine ACall.pure (h1) ?_; try simp(maxSteps:=9^9)only[↓VX,VQ,seval])
 by_cases c0 : c.2.2 = 0
 rotate_left
 ·have c1 : (c.2.2 = 0) = False := eq_false c0
  rw [if_pos c0] at he
  simp(maxSteps:=9^9)only[↓VX,VQ,seval,c1]
  left
  rw [he]
  exact ⟨c0,rfl⟩
 have c1 : (c.2.2 = 0) = True := eq_true c0
 rw [if_neg (fun q => q c0)] at he
 simp(maxSteps:=9^9)only[↓VX,VQ,seval,c1]
 repeat'(first|intro _|apply And.intro)
 all_goals try first|omega|(simp only[LL];omega)|exact nlC (by decide) _|exact nbC rfl
 (refine ACall.pure (h2) ?_; try simp(maxSteps:=9^9)only[↓VX,VQ,seval])
 cases o
 rotate_left
 ·rw [if_pos rfl] at he
  simp(maxSteps:=9^9)only[↓VX,VQ,seval]
  left
  rw [he]
  exact ⟨by decide,rfl⟩
 rw [if_neg (by decide)] at he
 simp(maxSteps:=9^9)only[↓VX,VQ,seval]
 refine ACall.told (h3 c0) ?_
 rintro r m' ⟨bm,g1,rfl,g3,g4⟩
 simp(maxSteps:=9^9)only[↓VX,VQ,seval]
 right
 exact ⟨he,hek c0,bm,g1,rfl,g3,g4⟩
theorem hear_c (b : REar) (hb : EOk b) (bm : Nat) (l : List Int) : PCall Tryz.prog 70 [.eptr (bookL b bm),ints l] (.tuple [heardA (if hearE b l = 0 then natsI l else []),.int .i64 (hearE b l)]) := by
 intro m
 have hk := hb.k
 have h2 := beyond_c 0 (b.sounds - 1) l
 obtain ⟨e,he⟩ : ∃ e,e = hearE b l := ⟨_,rfl⟩
 rw [← he]
 unfold hearE at he
 have h0 : heardL [] = [.int .i64 0,.int .i64 0,.int .i64 0,.int .i64 0,.int .i64 0,.int .i64 0] := rfl
 obtain ⟨o,ho⟩ : ∃ o,o = l.any (offP 0 (b.sounds - 1)) := ⟨_,rfl⟩
 rw [← ho] at h2 he
 simp only [bookL,ints] at h2 ⊢
 by_cases hl : 5 < l.length
 ·rw [if_pos hl] at he
  have l1 : ((5 : Int) < (l.length : Int)) = True := eq_true (by omega)
  (refine acall_intro (E := envC (modeAt [4] []) false []) (envCOk _ _ _) rfl Tryz.func70 rfl Tryz.call70 (by kernel_rfl) (by simp [Tryz.ntmps70]) ?_; simp only [Tryz.f70];  simp(maxSteps:=9^9)only[↓VX,VQ,seval,l1])
  repeat'(first|intro _|apply And.intro)
  all_goals try first|omega|(simp only[LL];omega)|exact nlC (by decide) _|exact nbC rfl
  rw [he,if_neg (by decide),heardA,h0]
 have l1 : ((5 : Int) < (l.length : Int)) = False := eq_false (by omega)
 rw [if_neg hl] at he
 cases o
 rotate_left
 ·rw [if_pos rfl] at he
  (refine acall_intro (E := envC (modeAt [4] []) false []) (envCOk _ _ _) rfl Tryz.func70 rfl Tryz.call70 (by kernel_rfl) (by simp [Tryz.ntmps70]) ?_; simp only [Tryz.f70];  simp(maxSteps:=9^9)only[↓VX,VQ,seval,l1])
  repeat'(first|intro _|apply And.intro)
  all_goals try first|omega|(simp only[LL];omega)|exact nlC (by decide) _|exact nbC rfl
  (refine ACall.pure (h2) ?_; try simp(maxSteps:=9^9)only[↓VX,VQ,seval])
  rw [he,if_neg (by decide),heardA,h0]
 rw [if_neg (by decide)] at he
 subst he
 rw [if_pos rfl]
 have hin : ∀ x ∈ l,0 ≤ x := fun x hx => by
  have := List.any_eq_false.1 ho.symm x hx
  rw [Bool.not_eq_true,offP_false] at this
  exact this.1
 have hcp : AV.int .i64 l.length :: (((l.map (AV.int .i64)).map AV.cells).flatten ++ List.drop (1 + ((l.map (AV.int .i64)).map AV.cells).flatten.length) [AV.int .i64 0,.int .i64 0,.int .i64 0,.int .i64 0,.int .i64 0,.int .i64 0]) = heardL (natsI l) := by
  have e : ∀ x ∈ l,((x.toNat : Nat) : Int) = x := fun x hx => by have := hin x hx; omega
  match l,hl,e with
  | [],_,_ => rfl
  | [a],_,e => simp [heardL,natsI,snd,AV.cells,e]
  | [a,b],_,e => simp [heardL,natsI,snd,AV.cells,e]
  | [a,b,c],_,e => simp [heardL,natsI,snd,AV.cells,e]
  | [a,b,c,d],_,e => simp [heardL,natsI,snd,AV.cells,e]
  | [a,b,c,d,f],_,e => simp [heardL,natsI,snd,AV.cells,e]
  | _ :: _ :: _ :: _ :: _ :: _ :: _,h,_ => exact absurd (by simp) h
 have hnl : (natsI l).length = l.length := by simp [natsI]
 (refine acall_intro (E := envC (modeAt [4] []) false [5]) (envCOk _ _ _) rfl Tryz.func70 rfl Tryz.call70 (by kernel_rfl) (by simp [Tryz.ntmps70]) ?_; simp only [Tryz.f70];  simp(maxSteps:=9^9)only[↓VX,VQ,seval,l1])
 repeat'(first|intro _|apply And.intro)
 all_goals try first|omega|(simp only[LL];omega)|exact nlC (by decide) _|exact nbC rfl
 (refine ACall.pure (h2) ?_; try simp(maxSteps:=9^9)only[↓VX,VQ,seval])
 refine acut_at_k 3 (envCOk _ _ _) (V := vcCopyL _) (fun h hd _ _ _ hi hf hs _ _ _ hn => vcCopyL_sound (envCOk _ _ _) h hd hi hf hs hn) rfl rfl (fun _ : Unit => ⟨[(4,.loc 4 0)],[],[(4,heardL (natsI l))],m⟩) (fun _ => True) (fun _ => rfl) ?_ ?_
 ·show vcOps _ _ (_ :: _) _ _
  simp(maxSteps:=9^9)only[↓VX,VQ,seval,List.take_succ_cons,List.take_zero,vcCopyL,vcCopyLL]
  refine ⟨⟨by omega,by omega⟩,(),?_⟩
  (simp only [FE,↓FP,seval])
  exact hcp
 rintro _ _
 simp only [heardL,heardA]
 simp(maxSteps:=9^9)only[↓VX,VQ,seval]
def bytes8 (x : List Nat) : List AV := x.map fun n : Nat => AV.int .u8 n
theorem ixByte8 (x : List Nat) (i : Int) (K : AV → Prop) : VIdx (bytes8 x) i K ↔ (0 ≤ i ∧ i.toNat < x.length) ∧ K (.int .u8 (x[i.toNat]! : Nat)) := VIdx_map (fun n : Nat => AV.int .u8 n) x i K
def sndsOf (b : REar) (x : List Nat) (n : Nat) : List Nat := (List.range n).map fun i => x[i]! % b.sounds.toNat
theorem topsounds_c (b : REar) (hk : 1 ≤ b.sounds ∧ b.sounds ≤ 4) (x : List Nat) (hx : ∀ n ∈ x,n < 256) : PCall Tryz.prog 22 [earA b,.slice 1 (bytes8 x)] (ints (intsN (sndsOf b x (min x.length 5)))) := by
 intro m
 have hbl : (bytes8 x).length = x.length := by unfold bytes8; rw [List.length_map]
 obtain ⟨k,hk'⟩ : ∃ k : Nat,b.sounds = (k : Int) := ⟨b.sounds.toNat,by omega⟩
 have hkn : b.sounds.toNat = k := by omega
 simp only [earA,earL,ints,hk']
 (refine acall_intro (E := envC (modeAt [5] []) false []) (envCOk _ _ _) rfl Tryz.func22 rfl Tryz.call22 (by kernel_rfl) (by simp [Tryz.ntmps22]) ?_; simp only [Tryz.f22];  simp(maxSteps:=9^9)only[↓VX,VQ,seval,hbl])
 refine aloop (envCOk _ _ _) (fun i : Nat => ⟨[(1,.v (.slice 1 (bytes8 x))),(2,.v (.eptr [.int .i64 k,.slice 2 (b.alphabets.map alphA),.slice 2 (b.spellings.map spelA)])),(5,.v (.slice 1 ((intsN (sndsOf b x i)).map (AV.int .i64)))),(6,.v (.int .i64 i))],[5],[],m⟩)
  (fun i => i ≤ min x.length 5) (fun i => 5 - i) 0 (fun _ => rfl) (Nat.zero_le _) (by (simp only [FE,↓FP,seval]); repeat' (first | rfl | apply And.intro)) ?_
 rintro i hi
 by_cases h1 : i < x.length
 ·by_cases h2 : i < 5
  ·have z1 : ((i : Int) < (x.length : Int)) = True := eq_true (by omega)
   have z2 : ((i : Int) < 5) = True := eq_true (by omega)
   simp(maxSteps:=9^9)only[↓VX,VQ,seval,z1,z2,hbl]
   repeat'(first|intro _|apply And.intro)
   all_goals try first|omega|(simp only[LL];omega)|exact nlC (by decide) _|exact nbC rfl
   (refine adraw (by first | exact envOk _ | exact envCOk _ _ _) mixed [⟨false,true,0⟩,⟨false,false,0⟩,⟨false,false,0⟩,⟨false,false,0⟩,⟨false,false,0⟩,⟨false,false,0⟩,⟨false,false,0⟩,⟨false,false,0⟩,⟨false,false,0⟩,⟨false,false,0⟩,⟨false,true,0⟩,⟨false,true,0⟩] (by kernel_rfl) ?_; show vcOpsD _ _ _ (_ :: _) _ _)
   simp(maxSteps:=9^9)only[↓VX,VQ,seval,↓ixByte8,hbl]
   have hmod : ((x[i]! : Nat) : Int) % (k : Int) = ((x[i]! % k : Nat) : Int) := rfl
   have hsn : sndsOf b x (i + 1) = sndsOf b x i ++ [x[i]! % k] := by
    unfold sndsOf
    rw [List.range_succ,List.map_append,hkn]; rfl
   have hx8 : x[i]! < 256 := hx _ (by rw [getD_any h1]; exact List.getElem_mem h1)
   have hsl : (intsN (sndsOf b x i)).length = i := by simp [intsN,sndsOf]
   refine ⟨⟨by omega,h1⟩,⟨by omega,by omega⟩,⟨by omega,by omega⟩,by rw [hsl]; omega,⟨by omega,by omega⟩,i + 1,by dsimp only; omega,by dsimp only; omega,?_⟩
   (simp only [FE,↓FP,seval])
   rw [hsn,hmod]
   simp [intsN]
  ·have z1 : ((i : Int) < (x.length : Int)) = True := eq_true (by omega)
   have z2 : ((i : Int) < 5) = False := eq_false (by omega)
   have hmi : min x.length 5 = i := by omega
   rw [hmi]
   simp(maxSteps:=9^9)only[↓VX,VQ,seval,z1,z2,hbl]
   exact fun _ => trivial
 ·have z1 : ((i : Int) < (x.length : Int)) = False := eq_false (by omega)
  have hmi : min x.length 5 = i := by omega
  rw [hmi]
  simp(maxSteps:=9^9)only[↓VX,VQ,seval,z1,hbl]
  exact fun _ => trivial
theorem rooms_app : ∀ a b : List RPart,roomsOf (a ++ b) = roomsOf a ++ roomsOf b
 | [],_ => rfl
 | p :: a,b => by
  rw [List.cons_append,roomsOf,roomsOf,rooms_app a b]
  split <;> rfl
theorem rooms_succ {ps : List RPart} {k : Nat} (hk : k < ps.length) : roomsOf (ps.take (k + 1)) = roomsOf (ps.take k) ++ if (ps[k]!).words = [] then [((ps[k]!).lo,(ps[k]!).hi)] else [] := by
 rw [List.take_succ_eq_append_getElem hk,getElem!_pos ps k hk,rooms_app]
 congr 1
theorem rooms_len : ∀ a : List RPart,(roomsOf a).length ≤ a.length
 | [] => Nat.le_refl _
 | p :: a => by
  have := rooms_len a
  rw [roomsOf]
  split <;> simp only [List.length_cons] <;> omega
theorem refrooms_c (f : RForm) (hf : f.parts.length ≤ 1000000) : PCall Tryz.prog 83 [formA f] (.slice 2 ((roomsOf f.parts).map spanR)) := by
 intro m
 have hr := fun p => refRoomy_c p
 simp only [formA_eq,partA,strs] at hr ⊢
 (refine acall_intro (E := envC (modeAt [3] []) false []) (envCOk _ _ _) rfl Tryz.func83 rfl Tryz.call83 (by kernel_rfl) (by simp [Tryz.ntmps83]) ?_; simp only [Tryz.f83];  simp(maxSteps:=9^9)only[↓VX,VQ,seval,])
 refine aloop (envCOk _ _ _) (fun i : Nat => ⟨[(1,.v (.eptr [.str f.name,.slice 3 (f.parts.map partA)])),(3,.v (.slice 2 ((roomsOf (f.parts.take i)).map spanR))),(4,.v (.int .i64 i))],[3],[],m⟩)
  (fun i => i ≤ f.parts.length) (fun i => f.parts.length - i) 0 (fun _ => rfl) (Nat.zero_le _) (by (simp only [FE,↓FP,seval]); repeat' (first | rfl | apply And.intro)) ?_
 rintro i hi
 by_cases hil : i < f.parts.length
 ·have z1 : ((i : Int) < (f.parts.length : Int)) = True := eq_true (by omega)
  have hrs := rooms_succ hil
  have hrl := rooms_len (f.parts.take i)
  rw [List.length_take] at hrl
  have hr := hr f.parts[i]!
  by_cases hw : (f.parts[i]!).words = []
  ·rw [if_pos hw] at hrs
   rw [decide_eq_true hw] at hr
   simp(maxSteps:=9^9)only[↓VX,VQ,seval,z1]
   repeat'(first|intro _|apply And.intro)
   all_goals try first|omega|(simp only[LL];omega)|exact nlC (by decide) _|exact nbC rfl
   (refine ACall.pure (hr) ?_; try simp(maxSteps:=9^9)only[↓VX,VQ,seval])
   repeat'(first|intro _|apply And.intro)
   all_goals try first|omega|(simp only[LL];omega)|exact nlC (by decide) _|exact nbC rfl
   refine ⟨i + 1,by omega,by dsimp only; omega,?_⟩
   (simp only [FE,↓FP,seval])
   rw [hrs]
   simp [spanR]
  ·rw [if_neg hw,List.append_nil] at hrs
   rw [decide_eq_false hw] at hr
   simp(maxSteps:=9^9)only[↓VX,VQ,seval,z1]
   repeat'(first|intro _|apply And.intro)
   all_goals try first|omega|(simp only[LL];omega)|exact nlC (by decide) _|exact nbC rfl
   (refine ACall.pure (hr) ?_; try simp(maxSteps:=9^9)only[↓VX,VQ,seval])
   repeat'(first|intro _|apply And.intro)
   all_goals try first|omega|(simp only[LL];omega)|exact nlC (by decide) _|exact nbC rfl
   refine ⟨i + 1,by omega,by dsimp only; omega,?_⟩
   (simp only [FE,↓FP,seval])
   rw [hrs]
   simp [spanR]
 ·have z1 : ((i : Int) < (f.parts.length : Int)) = False := eq_false (by omega)
  obtain rfl : i = f.parts.length := by omega
  simp(maxSteps:=9^9)only[↓VX,VQ,seval,z1]
  rw [List.take_length]
  exact fun _ => rfl
def turnN (x : List Nat) (n : Nat) : Nat := if x.length = 0 then 0 else x[n % x.length]!
theorem turn_c (x : List Nat) (hx : ∀ n ∈ x,n < 256) (n : Nat) (hn : n ≤ 1000000) : PCall Tryz.prog 84 [.slice 1 (bytes8 x),.int .i64 n] (.int .i64 (turnN x n)) := by
 intro m
 have hbl : (bytes8 x).length = x.length := by unfold bytes8; rw [List.length_map]
 unfold turnN
 by_cases h0 : x.length = 0
 ·have z0 : ((x.length : Int) = 0) = True := eq_true (by omega)
  rw [if_pos h0]
  (refine acall_intro (E := envC (modeAt [] []) false []) (envCOk _ _ _) rfl Tryz.func84 rfl Tryz.call84 (by kernel_rfl) (by simp [Tryz.ntmps84]) ?_; simp only [Tryz.f84];  simp(maxSteps:=9^9)only[↓VX,VQ,seval,hbl,z0])
  exact fun _ => trivial
 ·have z0 : ((x.length : Int) = 0) = False := eq_false (by omega)
  rw [if_neg h0]
  (refine acall_intro (E := envC (modeAt [] []) false []) (envCOk _ _ _) rfl Tryz.func84 rfl Tryz.call84 (by kernel_rfl) (by simp [Tryz.ntmps84]) ?_; simp only [Tryz.f84];  simp(maxSteps:=9^9)only[↓VX,VQ,seval,hbl,z0,↓ixByte8])
  intro _ _
  have hmod : (n : Int) % (x.length : Int) = ((n % x.length : Nat) : Int) := rfl
  rw [hmod,Int.toNat_natCast]
  have hlt : n % x.length < x.length := Nat.mod_lt _ (by omega)
  have h8 : x[n % x.length]! < 256 := hx _ (by rw [getD_any hlt]; exact List.getElem_mem hlt)
  exact ⟨⟨by omega,by omega⟩,⟨by omega,hlt⟩,⟨by omega,by omega⟩,rfl⟩
def saidL : List ByteArray := [⟨#[97]⟩,⟨#[105]⟩,⟨#[97,115,107]⟩,⟨#[116,111]⟩,⟨#[116,104,101]⟩,⟨#[98]⟩,⟨#[106,117,100,103,101]⟩,⟨#[109,101,114,99,121]⟩]
theorem said_c : PCall Tryz.prog 85 [] (strs saidL) := by
 intro m
 simp only [strs,saidL,List.map_cons,List.map_nil]
 (refine acall_intro (E := envC (modeAt [] []) false []) (envCOk _ _ _) rfl Tryz.func85 rfl Tryz.call85 (by kernel_rfl) (by simp [Tryz.ntmps85]) ?_; simp only [Tryz.f85];  simp(maxSteps:=9^9)only[↓VX,VQ,seval,buildV])
 try rfl
def turnW (x : List Nat) (at_ k : Nat) : List ByteArray := (List.range k).map fun j => saidL[turnN x (at_ + j) % 8]!
def anyN (x : List Nat) (r : Int × Int) (at_ : Nat) : Nat := r.1.toNat + turnN x at_ % (r.2 - r.1 + 1).toNat
def anyTo (x : List Nat) (rs : List (Int × Int)) : Nat → Nat × List (List ByteArray)
 | 0 => (0,[])
 | i + 1 => ((anyTo x rs i).1 + 1 + anyN x rs[i]! (anyTo x rs i).1,(anyTo x rs i).2 ++ [turnW x ((anyTo x rs i).1 + 1) (anyN x rs[i]! (anyTo x rs i).1)])
structure RoomsOk (rs : List (Int × Int)) : Prop where
 r : ∀ r ∈ rs,0 ≤ r.1 ∧ r.1 ≤ r.2 ∧ r.2 ≤ 3
theorem turnN_lt {x : List Nat} (hx : ∀ n ∈ x,n < 256) (n : Nat) : turnN x n < 256 := by
 unfold turnN
 split
 ·decide
 ·rename_i h
  have hlt : n % x.length < x.length := Nat.mod_lt _ (by omega)
  exact hx _ (by rw [getD_any hlt]; exact List.getElem_mem hlt)
theorem many_le {rs : List (Int × Int)} (h : RoomsOk rs) (x : List Nat) {i : Nat} (hi : i < rs.length) (k : Nat) : anyN x rs[i]! k ≤ 3 ∧ 0 < (rs[i]!.2 - rs[i]!.1 + 1).toNat := by
 have hmem : rs[i]! ∈ rs := by rw [getElem!_pos rs i hi]; exact List.getElem_mem hi
 obtain ⟨h1,h2,h3⟩ := h.r _ hmem
 have h0 : 0 < (rs[i]!.2 - rs[i]!.1 + 1).toNat := by omega
 have := Nat.mod_lt (turnN x k) h0
 unfold anyN
 omega
theorem any_le {rs : List (Int × Int)} (h : RoomsOk rs) (x : List Nat) : ∀ i,i ≤ rs.length → (anyTo x rs i).1 ≤ 4 * i ∧ (anyTo x rs i).2.length = i
 | 0,_ => ⟨Nat.le_refl _,rfl⟩
 | i + 1,hi => by
  obtain ⟨h1,h2⟩ := any_le h x i (by omega)
  have := (many_le h x (show i < rs.length by omega) (anyTo x rs i).1).1
  refine ⟨?_,?_⟩
  ·show (anyTo x rs i).1 + 1 + anyN x rs[i]! (anyTo x rs i).1 ≤ _
   omega
  ·show ((anyTo x rs i).2 ++ [_]).length = _
   rw [List.length_append,h2]; rfl
theorem turnW_succ (x : List Nat) (a k : Nat) : turnW x a (k + 1) = turnW x a k ++ [saidL[turnN x (a + k) % 8]!] := by
 unfold turnW
 rw [List.range_succ,List.map_append]; rfl
theorem any_c (f : RForm) (hf : f.parts.length ≤ 1000) (hr : RoomsOk (roomsOf f.parts)) (x : List Nat) (hx : ∀ n ∈ x,n < 256) :
  PCall Tryz.prog 21 [formA f,.slice 1 (bytes8 x)] (rowsW (anyTo x (roomsOf f.parts) (roomsOf f.parts).length).2) := by
 intro m
 have h1 := refrooms_c f (by omega)
 have hrl := rooms_len f.parts
 have ht := fun n hn => turn_c x hx n hn
 have hs := said_c
 have hsl : saidL.length = 8 := rfl
 obtain ⟨rs,hrs⟩ : ∃ rs,rs = roomsOf f.parts := ⟨_,rfl⟩
 rw [← hrs] at h1 hrl hr ⊢
 simp only [formA_eq,rowsW,strs] at h1 hs ⊢
 (refine acall_intro (E := envC (modeAt [6,10] []) false []) (envCOk _ _ _) rfl Tryz.func21 rfl Tryz.call21 (by kernel_rfl) (by simp [Tryz.ntmps21]) ?_; simp only [Tryz.f21];  simp(maxSteps:=9^9)only[↓VX,VQ,seval,])
 (refine ACall.pure (h1) ?_; try simp(maxSteps:=9^9)only[↓VX,VQ,seval])
 refine aloop (envCOk _ _ _) (fun i : Nat => ⟨[(1,.v (.slice 1 (bytes8 x))),(5,.v (.slice 2 (rs.map spanR))),(6,.v (.slice 1 ((anyTo x rs i).2.map strs))),(7,.v (.int .i64 (anyTo x rs i).1)),(8,.v (.int .i64 i))],[6],[],m⟩)
  (fun i => i ≤ rs.length) (fun i => rs.length - i) 0 (fun _ => rfl) (Nat.zero_le _) (by (simp only [FE,↓FP,seval]); repeat' (first | rfl | apply And.intro)) ?_
 rintro i hi
 by_cases hil : i < rs.length
 rotate_left
 ·have z1 : ((i : Int) < (rs.length : Int)) = False := eq_false (by omega)
  obtain rfl : i = rs.length := by omega
  simp(maxSteps:=9^9)only[↓VX,VQ,seval,z1]
  exact fun _ => trivial
 have z1 : ((i : Int) < (rs.length : Int)) = True := eq_true (by omega)
 obtain ⟨ha1,ha2⟩ := any_le hr x i hi
 obtain ⟨hm3,hm0⟩ := many_le hr x hil (anyTo x rs i).1
 have hmem : rs[i]! ∈ rs := by rw [getElem!_pos rs i hil]; exact List.getElem_mem hil
 obtain ⟨r1,r2,r3⟩ := hr.r _ hmem
 have hta := ht (anyTo x rs i).1 (by omega)
 have htl := turnN_lt hx (anyTo x rs i).1
 have hsucc : anyTo x rs (i + 1) = ((anyTo x rs i).1 + 1 + anyN x rs[i]! (anyTo x rs i).1,(anyTo x rs i).2 ++ [turnW x ((anyTo x rs i).1 + 1) (anyN x rs[i]! (anyTo x rs i).1)]) := rfl
 have hmany : rs[i]!.1 + (turnN x (anyTo x rs i).1 : Int) % (rs[i]!.2 - rs[i]!.1 + 1) = (anyN x rs[i]! (anyTo x rs i).1 : Nat) := by
  unfold anyN
  obtain ⟨d,hd⟩ : ∃ d : Nat,rs[i]!.2 - rs[i]!.1 + 1 = (d : Int) := ⟨(rs[i]!.2 - rs[i]!.1 + 1).toNat,by omega⟩
  rw [hd,Int.toNat_natCast]
  have : ((turnN x (anyTo x rs i).1 : Nat) : Int) % (d : Int) = ((turnN x (anyTo x rs i).1 % d : Nat) : Int) := rfl
  rw [this]; omega
 obtain ⟨k,hk⟩ : ∃ k,k = anyN x rs[i]! (anyTo x rs i).1 := ⟨_,rfl⟩
 rw [← hk] at hsucc hmany hm3
 obtain ⟨a,ha⟩ : ∃ a,a = (anyTo x rs i).1 := ⟨_,rfl⟩
 obtain ⟨O,hO⟩ : ∃ O,O = (anyTo x rs i).2 := ⟨_,rfl⟩
 rw [← ha] at hsucc hmany ha1 hta htl
 rw [← hO] at hsucc ha2
 rw [← ha,← hO]
 simp(maxSteps:=9^9)only[↓VX,VQ,seval,z1]
 repeat'(first|intro _|apply And.intro)
 all_goals try first|omega|(simp only[LL];omega)|exact nlC (by decide) _|exact nbC rfl
 (refine adraw (by first | exact envOk _ | exact envCOk _ _ _) mixed [⟨false,false,0⟩,⟨false,false,0⟩,⟨false,false,0⟩,⟨false,false,0⟩,⟨false,false,0⟩,⟨false,false,0⟩,⟨false,false,0⟩,⟨false,false,0⟩,⟨false,false,0⟩,⟨false,false,0⟩,⟨false,false,0⟩,⟨false,false,0⟩,⟨false,false,0⟩,⟨false,false,0⟩,⟨false,false,0⟩,⟨false,false,0⟩,⟨false,false,0⟩,⟨false,false,0⟩,⟨false,false,0⟩,⟨false,false,0⟩,⟨false,false,0⟩,⟨false,false,0⟩,⟨false,false,0⟩] (by kernel_rfl) ?_; show vcOpsD _ _ _ (_ :: _) _ _)
 simp(maxSteps:=9^9)only[↓VX,VQ,seval,↓ixSpanR]
 refine ⟨⟨by omega,hil⟩,_,.inl hta,?_⟩
 simp(maxSteps:=9^9)only[↓VX,VQ,seval,↓ixSpanR]
 rw [hmany]
 have hb1 : -9223372036854775808 ≤ rs[i]!.snd - rs[i]!.fst ∧ rs[i]!.snd - rs[i]!.fst ≤ 9223372036854775807 := by omega
 have hb2 : -9223372036854775808 ≤ rs[i]!.snd - rs[i]!.fst + 1 ∧ rs[i]!.snd - rs[i]!.fst + 1 ≤ 9223372036854775807 := by omega
 refine ⟨⟨by omega,hil⟩,⟨by omega,hil⟩,hb1,hb2,⟨by omega,by omega⟩,⟨by omega,by omega⟩,⟨by omega,by omega⟩,?_⟩
 refine aloop (envCOk _ _ _) (fun j : Nat => ⟨[(1,.v (.slice 1 (bytes8 x))),(5,.v (.slice 2 (rs.map spanR))),(6,.v (.slice 1 (O.map strs))),(7,.v (.int .i64 (a + 1 + j : Nat))),(8,.v (.int .i64 i)),(9,.v (.int .i64 k)),(10,.v (.slice 1 ((turnW x (a + 1) j).map AV.str))),(11,.v (.int .i64 j))],[6,10],[],m⟩)
  (fun j => j ≤ k) (fun j => k - j) 0 (fun _ => rfl) (Nat.zero_le _) (by (simp only [FE,↓FP,seval]); repeat' (first | rfl | apply And.intro)) ?_
 rintro j hj
 by_cases hjk : j < k
 ·have y1 : ((j : Int) < (k : Int)) = True := eq_true (by omega)
  have htj := ht (a + 1 + j) (by omega)
  have hws := turnW_succ x (a + 1) j
  obtain ⟨T,hT⟩ : ∃ T,T = turnN x (a + 1 + j) := ⟨_,rfl⟩
  rw [← hT] at htj hws
  have hT8 : (T : Int) % 8 = ((T % 8 : Nat) : Int) := rfl
  have hTl : T % 8 < 8 := Nat.mod_lt _ (by decide)
  have hwl : (turnW x (a + 1) j).length = j := by simp [turnW]
  simp(maxSteps:=9^9)only[↓VX,VQ,seval,y1]
  (refine ACall.pure (hs) ?_; try simp(maxSteps:=9^9)only[↓VX,VQ,seval])
  (refine ACall.pure (htj) ?_; try simp(maxSteps:=9^9)only[↓VX,VQ,seval])
  (refine ACall.pure (hs) ?_; try simp(maxSteps:=9^9)only[↓VX,VQ,seval])
  intro _
  have hsi : (saidL.length : Int) = 8 := rfl
  rw [hsi,hT8,Int.toNat_natCast,hsl,hwl]
  refine ⟨⟨by omega,by decide⟩,⟨by omega,hTl⟩,by omega,⟨by omega,by omega⟩,⟨by omega,by omega⟩,j + 1,by omega,by dsimp only; omega,?_⟩
  (simp only [FE,↓FP,seval])
  rw [hws]
  simp
  omega
 ·have y1 : ((j : Int) < (k : Int)) = False := eq_false (by omega)
  obtain rfl : j = k := by omega
  simp(maxSteps:=9^9)only[↓VX,VQ,seval,y1]
  refine ⟨by omega,by omega,⟨by omega,by omega⟩,i + 1,by omega,by dsimp only; omega,?_⟩
  (simp only [FE,↓FP,seval])
  rw [hsucc]
  simp [strs]
end Go.Proofs.YtdmejgfcaacdoaaGreat.Abs
