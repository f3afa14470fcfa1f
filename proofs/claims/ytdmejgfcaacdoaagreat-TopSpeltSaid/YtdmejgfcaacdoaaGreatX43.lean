/- Lemmas for the statements of this seat (X43): they hold without conditions beyond those that each one states. -/
import Derived.Test.YtdmejgfcaacdoaaGreatX42
import Derived.Test.YtdmejgfcaacdoaaGreatX16
import Derived.Test.YtdmejgfcaacdoaaGreatX38
import Derived.Test.YtdmejgfcaacdoaaGreatX17
import Derived.Test.YtdmejgfcaacdoaaGreatX40
import Derived.Test.YtdmejgfcaacdoaaGreatX18
import Derived.Test.YtdmejgfcaacdoaaGreatX24
/- Contracts: the examples of the ear: the book. -/
namespace Go.Proofs.YtdmejgfcaacdoaaGreat.Abs
set_option linter.unusedSimpArgs false
set_option maxHeartbeats 4000000
set_option maxRecDepth 100000
open Go Go.RowKit Go.Proofs
theorem lawletter_c (c : Nat) (n : Int) (s : Bool) : PCall Tryz.prog 128 [.int .u8 c,.int .i64 n,.bool s] (letrA ⟨c,n,s⟩) := by
 intro m
 simp only [letrA]
 (refine acall_intro (E := envC (modeAt [6] []) false []) (envCOk _ _ _) rfl Tryz.func128 rfl Tryz.call128 (by kernel_rfl) (by simp [Tryz.ntmps128]) ?_; simp only [Tryz.f128];  simp(maxSteps:=9^9)only[↓VX,VQ,seval,buildV])
theorem bookX_c : PCall Tryz.prog 74 [] (earA earX) := by
 intro m
 have a1 := lawletter_c 97 1 false
 have a2 := lawletter_c 101 3 false
 have a3 := lawletter_c 107 4 false
 have a4 := lawletter_c 104 0 true
 have b2 := lawletter_c 121 2 true
 have b3 := lawletter_c 110 1 false
 simp only [letrA] at a1 a2 a3 a4 b2 b3
 simp only [earA,earL,earX,alphA,spelA,letrA,List.map_cons,List.map_nil]
 (refine acall_intro (E := envC (modeAt [0,1,2] []) false []) (envCOk _ _ _) rfl Tryz.func74 rfl Tryz.call74 (by kernel_rfl) (by simp [Tryz.ntmps74]) ?_; simp only [Tryz.f74];  simp(maxSteps:=9^9)only[↓VX,VQ,seval,buildV])
 (refine ACall.pure (a1) ?_; try simp(maxSteps:=9^9)only[↓VX,VQ,seval])
 (refine ACall.pure (a2) ?_; try simp(maxSteps:=9^9)only[↓VX,VQ,seval])
 (refine ACall.pure (a3) ?_; try simp(maxSteps:=9^9)only[↓VX,VQ,seval])
 (refine ACall.pure (a4) ?_; try simp(maxSteps:=9^9)only[↓VX,VQ,seval])
 simp(maxSteps:=9^9)only[↓VX,VQ,seval,buildV]
 (refine ACall.pure (a3) ?_; try simp(maxSteps:=9^9)only[↓VX,VQ,seval])
 (refine ACall.pure (b2) ?_; try simp(maxSteps:=9^9)only[↓VX,VQ,seval])
 (refine ACall.pure (b3) ?_; try simp(maxSteps:=9^9)only[↓VX,VQ,seval])
 simp(maxSteps:=9^9)only[↓VX,VQ,seval,buildV]
 try rfl
theorem earX_fit : earFit earX := by
 refine ⟨fun x hx => ?_,fun x hx => ?_⟩
 ·simp only [earX,List.mem_cons,List.not_mem_nil,or_false] at hx
  rcases hx with rfl | rfl
  all_goals
   refine ⟨by decide,fun y hy => ?_⟩
   simp only [List.mem_cons,List.not_mem_nil,or_false] at hy
   rcases hy with rfl | rfl | rfl | rfl <;> decide
 ·simp only [earX,List.mem_cons,List.not_mem_nil,or_false] at hx
  rcases hx with rfl | rfl | rfl | rfl <;> decide
theorem earX_keys : KeysFit earX := ⟨by decide +kernel⟩
theorem earX_first : ∀ k,k < earX.spellings.length → 0 < (firstH earX [k]).1.length := by decide +kernel
theorem xName1 : nameB ⟨#[97,46,57]⟩ = true := by decide +kernel
theorem xName2 : nameB ⟨#[46,97]⟩ = false := by decide +kernel
theorem earawake_c : PCall Tryz.prog 19 [] (.bool true) := by
 intro m
 have h0 := bookX_c
 have a1 := count_c earX earX_fit earX_keys 0
 rw [xCount] at a1
 have a2 := firstC_c earX earX_fit earX_keys earX_first 1
 rw [xFirst] at a2
 have a3 := reads_c earX earX_fit 1 [2,1]
 rw [xReads1] at a3
 have a4 := reads_c earX earX_fit 1 [2,0]
 rw [xReads2] at a4
 have a5 := alike_c earX earX_fit earX_keys 2 3
 rw [xAlike1] at a5
 have a6 := alike_c earX earX_fit earX_keys 0 1
 rw [xAlike2] at a6
 have a7 := alike_c earX earX_fit earX_keys 1 2
 rw [xAlike3] at a7
 have a8 := common_c earX earX_fit earX_keys [0,2,3] (by decide +kernel)
 rw [xCommon1] at a8
 have a9 := common_c earX earX_fit earX_keys [1,2] (by decide +kernel)
 rw [xCommon2] at a9
 generalize (commonR earX [1,2]).1 = Q at a9
 have b1 := odd_c earX earX_fit earX_keys
 rw [xOdd] at b1
 have b2 := spell_c earX earX_fit 0 [2,1]
 rw [xSpell1] at b2
 have b3 := spell_c earX earX_fit 1 [0,0]
 rw [xSpell2] at b3
 have n1 := name_c ⟨#[97,46,57]⟩ (by decide)
 rw [xName1] at n1
 have n2 := name_c ⟨#[46,97]⟩ (by decide)
 rw [xName2] at n2
 have i1 := intsT_c [2]
 have i2 := intsT_c [2,0]
 have i3 := intsT_c [1]
 generalize hB : earX = B at *
 simp only [earA,earL,ints,List.map_cons,List.map_nil] at *
 (refine acall_intro (E := envC (modeAt [1] []) false []) (envCOk _ _ _) rfl Tryz.func19 rfl Tryz.call19 (by kernel_rfl) (by simp [Tryz.ntmps19]) ?_; simp only [Tryz.f19];  simp(maxSteps:=9^9)only[↓VX,VQ,seval,buildV])
 (refine ACall.pure (h0) ?_; try simp(maxSteps:=9^9)only[↓VX,VQ,seval])
 (refine ACall.pure (a1) ?_; try simp(maxSteps:=9^9)only[↓VX,VQ,seval])
 (refine ACall.pure (a2) ?_; try simp(maxSteps:=9^9)only[↓VX,VQ,seval])
 (refine ACall.pure (a3) ?_; try simp(maxSteps:=9^9)only[↓VX,VQ,seval])
 (refine ACall.pure (a4) ?_; try simp(maxSteps:=9^9)only[↓VX,VQ,seval])
 (refine ACall.pure (a5) ?_; try simp(maxSteps:=9^9)only[↓VX,VQ,seval])
 (refine ACall.pure (a6) ?_; try simp(maxSteps:=9^9)only[↓VX,VQ,seval])
 (refine ACall.pure (a7) ?_; try simp(maxSteps:=9^9)only[↓VX,VQ,seval])
 (refine ACall.pure (a8) ?_; try simp(maxSteps:=9^9)only[↓VX,VQ,seval])
 (refine ACall.pure (a9) ?_; try simp(maxSteps:=9^9)only[↓VX,VQ,seval])
 (refine ACall.pure (b1) ?_; try simp(maxSteps:=9^9)only[↓VX,VQ,seval])
 (refine ACall.pure (b2) ?_; try simp(maxSteps:=9^9)only[↓VX,VQ,seval])
 (refine ACall.pure (b3) ?_; try simp(maxSteps:=9^9)only[↓VX,VQ,seval])
 simp(maxSteps:=9^9)only[↓VX,VQ,seval,List.append_eq,eq_self,decide_true,if_true]
 (refine ACall.pure (i1) ?_; try simp(maxSteps:=9^9)only[↓VX,VQ,seval])
 (refine ACall.pure (i2) ?_; try simp(maxSteps:=9^9)only[↓VX,VQ,seval])
 (refine ACall.pure (i3) ?_; try simp(maxSteps:=9^9)only[↓VX,VQ,seval])
 (refine ACall.pure (n1) ?_; try simp(maxSteps:=9^9)only[↓VX,VQ,seval])
 (refine ACall.pure (n2) ?_; try simp(maxSteps:=9^9)only[↓VX,VQ,seval])
theorem natsI_ints (h : List Nat) : natsI (intsN h) = h := by
 unfold natsI intsN
 rw [List.map_map]
 exact (List.map_congr_left fun n _ => Int.toNat_natCast n).trans (List.map_id h)
theorem snds_ok (b : REar) (hk : 1 ≤ b.sounds ∧ b.sounds ≤ 4) (x : List Nat) : (sndsOf b x (min x.length 5)).length ≤ 5 ∧ ∀ n ∈ sndsOf b x (min x.length 5),n < b.sounds.toNat := by
 unfold sndsOf
 refine ⟨by rw [List.length_map,List.length_range]; omega,fun n hn => ?_⟩
 obtain ⟨i,_,rfl⟩ := List.mem_map.1 hn
 exact Nat.mod_lt _ (by omega)
theorem enterE1_ok {b : REar} (hb : (checkE b).2.2 = 0) {many n : Nat} (hn : n < many) : enterE1 b many [(n : Int)] = 0 := by
 unfold enterE1
 rw [if_neg (by simp [hb]),if_neg]
 simp [offP]
 omega
theorem hearE_ok {b : REar} {h : List Nat} (h5 : h.length ≤ 5) (hk : ∀ n ∈ h,n < b.sounds.toNat) : hearE b (intsN h) = 0 := by
 unfold hearE
 rw [if_neg (by simp [intsN]; omega),if_neg]
 rw [Bool.not_eq_true,List.any_eq_false]
 intro z hz
 obtain ⟨n,hn,rfl⟩ := List.mem_map.1 hz
 have := hk n hn
 rw [Bool.not_eq_true,offP_false]
 omega
theorem spelt_cases {b : REar} (hb : (checkE b).2.2 = 0) {al : Nat} (hal : al < b.alphabets.length) {h : List Nat} (h5 : h.length ≤ 5) (hk : ∀ n ∈ h,n < b.sounds.toNat) :
  spellR b al (intsN h) = (ByteArray.empty,9) ∨ ∃ w,spellR b al (intsN h) = (w,0) ∧ wordB w = true ∧ readsR { b with spellings := [⟨al,w⟩] } 0 (intsN h) = (true,0) := by
 unfold spellR
 rw [if_neg (by rw [enterE1_ok hb hal]; simp),if_neg (by rw [hearE_ok h5 hk]; simp),natsI_ints,Int.toNat_natCast]
 cases e : spellT (b.alphabets[al]!).letters h with
 | none => exact .inl rfl
 | some t =>
  right
  obtain ⟨a1,a2,a3⟩ := spelt_ok hb hal hk e
  refine ⟨textB t,rfl,a1,?_⟩
  unfold readsR
  have e1 : enterE1 { b with spellings := [⟨al,textB t⟩] } ({ b with spellings := [⟨al,textB t⟩] } : REar).spellings.length [0] = 0 := enterE1_ok (n := 0) a2 (by simp)
  have e2 : hearE { b with spellings := [⟨al,textB t⟩] } (intsN h) = 0 := hearE_ok (b := { b with spellings := [⟨al,textB t⟩] }) h5 hk
  rw [if_neg (by rw [e1]; simp),if_neg (by rw [e2]; simp),natsI_ints]
  have e3 : ofH { b with spellings := [⟨al,textB t⟩] } h 0 = true := by
   unfold ofH
   rw [List.any_eq_true]
   exact ⟨h,a3,decide_eq_true rfl⟩
  show (ofH _ h 0,(0 : Int)) = _
  rw [e3]
def noteL (w : ByteArray) (t : List ByteArray) : List ByteArray := w :: wI :: wAsk :: t
theorem said_words : ∀ w ∈ saidL,wordB w = true := by decide +kernel
theorem note_rooms : roomsOf (shelfX.forms[1]!).parts = [(1,2),(0,2)] := by decide +kernel
theorem note_make {w : ByteArray} {t : List ByteArray} (hw : wordB w = true) (ht : wordsB t = true) (hl : t.length ≤ 2) : makeR shelfX 1 [[w],t] = (noteL w t,0) := by
 unfold makeR
 have e0 : enterS shelfX 1 = 0 := by decide +kernel
 have e1 : (1 : Int).toNat = 1 := rfl
 have e2 : fillsE [((1 : Int),(2 : Int)),(0,2)] [[w],t] = 0 := by
  rw [fillsE,if_neg (by simp [offP]),if_neg (by simp [wordsB,hw]),fillsE,if_neg (by simp [offP]; omega),if_neg (by rw [ht]; simp)]
  rfl
 rw [if_neg (by rw [e0]; simp),e1,note_rooms,if_neg (by simp),if_neg (by rw [e2]; simp)]
 have e3 : builtOf (shelfX.forms[1]!).parts [[w],t] = [w] ++ ([wI,wAsk] ++ (t ++ [])) := rfl
 rw [e3,List.append_nil]
 rfl
theorem wIAsk : wordB wI = true ∧ wordB wAsk = true := by decide +kernel
theorem note_words {w : ByteArray} {t : List ByteArray} (hw : wordB w = true) (ht : wordsB t = true) : wordsB (noteL w t) = true := by
 unfold wordsB noteL at *
 simp [hw,wIAsk.1,wIAsk.2,ht]
theorem note_let {w : ByteArray} {t : List ByteArray} (hw : wordB w = true) (ht : wordsB t = true) (hl : t.length ≤ 2) : letE (noteL w t) = 0 := by
 unfold letE
 rw [if_neg (by simp [noteL]; omega),if_pos (note_words hw ht)]
theorem words_fit {l : List ByteArray} (h : wordsB l = true) : sizesFit l := fun s hs => by
 have := List.all_eq_true.1 h s hs
 unfold wordB at this
 rw [Bool.and_eq_true,decide_eq_true_eq] at this
 omega
theorem any_note {x : List Nat} (_hx : ∀ n ∈ x,n < 256) : ∃ A t,(anyTo x (roomsOf (shelfX.forms[1]!).parts) (roomsOf (shelfX.forms[1]!).parts).length).2 = [A,t] ∧ wordsB t = true ∧ t.length ≤ 2 := by
 rw [note_rooms]
 refine ⟨_,_,rfl,?_,?_⟩
 ·unfold wordsB
  rw [List.all_eq_true]
  intro w hw
  obtain ⟨j,_,rfl⟩ := List.mem_map.1 hw
  refine said_words _ ?_
  have hlt : turnN x ((anyTo x [(1,2),(0,2)] 1).1 + 1 + j) % 8 < saidL.length := Nat.mod_lt _ (by decide)
  have e : ∀ k,k < saidL.length → saidL[k]! ∈ saidL := fun k hk => by rw [getElem!_pos saidL k hk]; exact List.getElem_mem hk
  exact e _ hlt
 ·unfold turnW
  rw [List.length_map,List.length_range]
  unfold anyN
  have : turnN x (anyTo x [(1,2),(0,2)] 1).1 % ((2 : Int) - 0 + 1).toNat < 3 := Nat.mod_lt _ (by decide)
  show (0 : Int).toNat + turnN x (anyTo x [(1,2),(0,2)] 1).1 % ((2 : Int) - 0 + 1).toNat ≤ 2
  simp at this ⊢
  omega
theorem note_roomsOk : RoomsOk (roomsOf (shelfX.forms[1]!).parts) := ⟨by rw [note_rooms]; decide⟩
end Go.Proofs.YtdmejgfcaacdoaaGreat.Abs
