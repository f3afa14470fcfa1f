/- Lemmas for the statements of this seat (X30): they hold without conditions beyond those that each one states. -/
import Derived.Test.YtdmejgfcaacdoaaGreatX29
import Derived.Test.YtdmejgfcaacdoaaGreatX28
/- Contracts: a letter's text,Write. -/
namespace Go.Proofs.YtdmejgfcaacdoaaGreat.Abs
set_option linter.unusedSimpArgs false
set_option maxHeartbeats 4000000
set_option maxRecDepth 100000
open Go Go.RowKit Go.Proofs
theorem isCells_lt {w : World} {b n : Nat} (h : isCells w b n) : b < w.heap.size := by
 obtain ⟨cs,e,fz,h,_⟩ := h
 rcases Nat.lt_or_ge b w.heap.size with q | q
 ·exact q
 ·simp [Array.getElem?_eq_none q] at h
theorem below_ext {G : Gh} {w w' : World} (hi : Inv G w) (hb : Below w.heap.size w w') : Ext G w G w' ∧ Inv G w' := by
 have hx : Ext G w G w' := ⟨rfl,rfl,hb.size,fun _ => Nat.le_refl _,fun b i h => hb.cell (p := ⟨b,i,none⟩) (isCells_lt (hi.com b (by omega))),fun b h => ⟨hb.block b (hi.lock b h),rfl⟩⟩
 refine ⟨hx,⟨hi.below.trans (hb.mono hi.below.size),fun b h => ?_,fun b h => Nat.lt_of_lt_of_le (hi.lock b h) hb.size⟩⟩
 obtain ⟨cs,e,fz,h1,h2⟩ := hi.com b h
 exact ⟨cs,e,fz,by rw [hb.block b (isCells_lt ⟨cs,e,fz,h1,h2⟩)]; exact h1,h2⟩
theorem below_mem {G : Gh} {w w' : World} {m : Mem} (hi : Inv G w) (hb : Below w.heap.size w w') (hm : MemRep G w m) : MemRep G w' m := by
 intro b x hx
 obtain ⟨b1,b2,b3,b4,b5⟩ := hm b x hx
 exact ⟨b1,Nat.lt_of_lt_of_le b2 hb.size,b3,b4,b5.ext (below_ext hi hb).1 (hb.block b b2)⟩
theorem text_c (wd : Int) (l : List ByteArray) (hl : shortB l) (h0 : 0 ≤ wd) (h1 : wd ≤ 1000) : PCall Tryz.prog 88 [.int .i64 wd,strs l] (.str (textOf wd l)) := by
 intro m
 refine ⟨fun args w => Tryz.call88 args w,fun G w vs hi hm hr => ?_⟩
 obtain ⟨v1,vs,rfl,r1,hr⟩ := Reps.cons_inv hr
 obtain ⟨v2,vs,rfl,r2,hr⟩ := Reps.cons_inv hr
 obtain rfl := Reps.nil_inv hr
 obtain rfl := rep_int r1
 have key : ∃ a cap,v2 = .slice a l.length cap ∧ l.length ≤ cap ∧ ∀ k,k < l.length → ∃ b off,a = some ⟨b,off,none⟩ ∧ b < w.heap.size ∧ w.cell? ⟨b,off + k,none⟩ = some (.string l[k]!) := by
  rcases rep_slice r2 with ⟨e,hv⟩ | ⟨b,off,cap,vs,rfl,q1,q2,q3,q4,q5,q6⟩
  ·have e0 : l = [] := by simpa using e
   subst e0
   rcases hv with rfl | ⟨a0,cap0,rfl,hm0⟩
   ·exact ⟨none,0,rfl,Nat.le_refl _,fun k hk => by simp at hk⟩
   ·exact ⟨some a0,cap0,rfl,Nat.zero_le _,fun k hk => by simp at hk⟩
  ·rw [List.length_map] at q2 q4 q5
   refine ⟨some ⟨b,off,none⟩,cap,by rw [List.length_map],q2,fun k hk => ⟨b,off,rfl,?_,?_⟩⟩
   ·exact isCells_lt (hi.com b (by omega))
   ·rw [q5 k (by omega)]
    have := q6 k (.str l[k]!) 0 (.str l[k]!) (by rw [List.getElem?_map,List.getElem?_eq_getElem hk,getElem!_pos l k hk]; rfl) rfl
    rw [Nat.mul_one,Nat.add_zero] at this
    rw [rep_str this]
 obtain ⟨a,cap,rfl,hc1,hc2⟩ := key
 refine (text_walk wd l hl h0 h1 w a cap hc2 hc1).mono ?_
 rintro e w' ⟨rfl,hb⟩
 rw [text_bytes]
 obtain ⟨x1,x2⟩ := below_ext hi hb
 exact ⟨_,.str (textOf wd l),m,G,rfl,x1,x2,below_mem hi hb hm,.str _,rfl,rfl⟩
theorem short_ok {l : List ByteArray} (h : letE l = 0) : shortB l := by
 obtain ⟨h1,h2⟩ := letE_len h
 refine ⟨h1,fun s hs => ?_⟩
 have := List.all_eq_true.1 h2 s hs
 unfold wordB at this
 simp only [Bool.and_eq_true,decide_eq_true_eq] at this
 exact this.1.2
theorem write_c (s : RShelf) (hs : shelfFit s) (l : List ByteArray) (hl : sizesFit l) : PCall Tryz.prog 25 [shelfA s,strs l] (.tuple [.str (writeR s l).1,.int .i64 (writeR s l).2]) := by
 intro m
 have hc := letcheck_c s hs
 have hle := lettered_c l hl
 obtain ⟨E,hE⟩ : ∃ E,E = writeR s l := ⟨_,rfl⟩
 rw [← hE]
 unfold writeR at hE
 have hmany := fun h => checkS_many (s := s) h
 have htx := fun (h : letE l = 0) (h1 : 8 ≤ s.width ∧ s.width ≤ 30) => text_c s.width l (short_ok h) (by omega) (by omega)
 obtain ⟨c,hcc⟩ : ∃ c,c = checkS s := ⟨_,rfl⟩
 rw [← hcc] at hc hE hmany
 obtain ⟨e,hee⟩ : ∃ e,e = letE l := ⟨_,rfl⟩
 rw [← hee] at hle hE htx
 simp only [shelfA,shelfL,strs] at hc hle htx ⊢
 by_cases h0 : c.2.2 = 0
 ·rw [if_neg (fun q => q h0)] at hE
  by_cases h1 : e = 0
  ·rw [if_neg (fun q => q h1)] at hE
   have ht := htx h1 (hmany h0).2
   subst h1
   (refine acall_intro (E := env fun _ => .imm) (envOk _) rfl Tryz.func25 rfl Tryz.call25 (by kernel_rfl) (by simp [Tryz.ntmps25]) ?_; simp only [Tryz.f25];  simp(maxSteps:=9^9)only[↓VX,VQ,seval])
   (refine ACall.pure (hc) ?_; try simp(maxSteps:=9^9)only[↓VX,VQ,seval])
   simp(maxSteps:=9^9)only[↓VX,VQ,seval,h0]
   (refine ACall.pure (hle) ?_; try simp(maxSteps:=9^9)only[↓VX,VQ,seval])
   (refine ACall.pure (ht) ?_; try simp(maxSteps:=9^9)only[↓VX,VQ,seval])
   rw [hE]
  ·rw [if_pos h1] at hE
   have e1 : (e = 0) = False := eq_false h1
   (refine acall_intro (E := env fun _ => .imm) (envOk _) rfl Tryz.func25 rfl Tryz.call25 (by kernel_rfl) (by simp [Tryz.ntmps25]) ?_; simp only [Tryz.f25];  simp(maxSteps:=9^9)only[↓VX,VQ,seval])
   (refine ACall.pure (hc) ?_; try simp(maxSteps:=9^9)only[↓VX,VQ,seval])
   simp(maxSteps:=9^9)only[↓VX,VQ,seval,h0]
   (refine ACall.pure (hle) ?_; try simp(maxSteps:=9^9)only[↓VX,VQ,seval])
   simp(maxSteps:=9^9)only[↓VX,VQ,seval,e1]
   rw [hE]; rfl
 ·rw [if_pos h0] at hE
  have e0 : (c.2.2 = 0) = False := eq_false h0
  (refine acall_intro (E := env fun _ => .imm) (envOk _) rfl Tryz.func25 rfl Tryz.call25 (by kernel_rfl) (by simp [Tryz.ntmps25]) ?_; simp only [Tryz.f25];  simp(maxSteps:=9^9)only[↓VX,VQ,seval])
  (refine ACall.pure (hc) ?_; try simp(maxSteps:=9^9)only[↓VX,VQ,seval])
  simp(maxSteps:=9^9)only[↓VX,VQ,seval,e0]
  rw [hE]; rfl
theorem sep_pred (w : World) : PredGrows Tryz.prog 90 #[] sepB w := by
 intro W x hx hb
 show Calls Tryz.prog 90 #[.int .i32 x] W _
 have hs : sepB x = (decide ((x : Int) = 32) || decide ((x : Int) = 10)) := by
  unfold sepB
  rw [Bool.eq_iff_iff]; simp; omega
 go_enter Tryz.func90,Tryz.ntmps90
 go_wp2
 ·go_ret
  refine ⟨?_,Below.refl _ _⟩
  show Ending.returned (Value.bool true) = _
  rw [hs]; simp_all
 ·go_ret
  refine ⟨?_,Below.refl _ _⟩
  show Ending.returned (Value.bool ((x : Int) == 32 || (x : Int) == 10)) = _
  rw [hs]; rfl
theorem row_new {G : Gh} {w w' : World} (hi : Inv G w) (hb : Below w.heap.size w w') {A n : Nat} (hA : w.heap.size ≤ A) {cur : Array Value} {e : TypeId} (hh : w'.heap[A]? = some (.cells cur e (0,0))) (hn : n ≤ cur.size) :
  Ext G w (G.setCom A n) w' ∧ Inv (G.setCom A n) w' := by
 obtain ⟨x1,i1⟩ := below_ext hi hb
 have hc0 : G.com A = 0 := hi.com_new hA
 have hlt : ∀ b,G.com b ≠ 0 → b ≠ A := fun b h e => by subst e; exact h hc0
 have hcm : ∀ b,b ≠ A → (G.setCom A n).com b = G.com b := fun b h => upd_ne _ _ h
 refine ⟨⟨rfl,rfl,hb.size,fun b => ?_,fun b i h => x1.cell b i h,fun b h => ⟨(x1.held b h).1,?_⟩⟩,⟨i1.below,fun b h => ?_,i1.lock⟩⟩
 ·by_cases q : b = A
  ·subst q; rw [hc0]; exact Nat.zero_le _
  ·rw [hcm b q]; exact Nat.le_refl _
 ·refine hcm b fun e => ?_
  have := hi.lock b h
  omega
 ·by_cases q : b = A
  ·subst q
   have : (G.setCom b n).com b = n := upd_same _ _ _
   rw [this]
   exact ⟨cur,e,_,hh,hn⟩
  ·rw [hcm b q] at h ⊢
   exact i1.com b h
theorem fields_c (s : ByteArray) (hs : s.size ≤ 1000000) : PCall Tryz.prog 89 [.str s,.fn (.func 90) [] []] (strs (fieldsOf s)) := by
 intro m
 refine ⟨fun args w => Tryz.call89 args w,fun G w vs hi hm hr => ?_⟩
 obtain ⟨v1,vs,rfl,r1,hr⟩ := Reps.cons_inv hr
 obtain ⟨v2,vs,rfl,r2,hr⟩ := Reps.cons_inv hr
 obtain rfl := Reps.nil_inv hr
 obtain rfl := rep_str r1
 obtain rfl : v2 = .func (.func 90) #[] #[] := by
  cases r2 with
  | fn f first caps fs cs hf hc h h' =>
   have e1 : fs = [] := List.eq_nil_of_length_eq_zero hf.symm
   have e2 : cs = [] := List.eq_nil_of_length_eq_zero hc.symm
   rw [e1,e2]
 refine (Any.strings_FieldsFunc_grows lays229 90 #[] (fun args w => Tryz.call90 args w) sepB s w (by omega) (sep_pred w) (by kernel_rfl) (by kernel_rfl)).mono ?_
 rintro e w' ⟨A,rfl,hA,hown,hb⟩
 have hF : Lib.goFieldsP sepB s = fieldsOf s := rfl
 rw [hF] at hown ⊢
 obtain ⟨hlen,hcase⟩ := hown
 rcases hcase with ⟨e,_⟩ | ⟨g,cap,cur,e,hbase,hheap,hcap,hmax,hsz,htake⟩
 ·cases e
 ·cases e
  rw [Nat.mul_one] at hsz htake
  obtain ⟨x1,x2⟩ := row_new hi hb hA hheap (n := (fieldsOf s).length) (by omega)
  have hca : (G.setCom A (fieldsOf s).length).com A = (fieldsOf s).length := upd_same _ _ _
  have hcell : ∀ i,i < (fieldsOf s).length → w'.cell? ⟨A,i,none⟩ = some (.string (fieldsOf s)[i]!) := fun i hi => by
   have h1 : cur.toList[i]? = some (.string (fieldsOf s)[i]!) := by
    have h2 : (cur.toList.take (fieldsOf s).length)[i]? = cur.toList[i]? := List.getElem?_take_of_lt hi
    rw [← h2,htake,List.getElem?_map,List.getElem?_eq_getElem hi,getElem!_pos _ i hi]; rfl
   simp [World.cell?,hheap]
   simpa using h1
  have hrep : Rep (G.setCom A (fieldsOf s).length).com w' (strs (fieldsOf s)) (.slice (some ⟨A,0,none⟩) (fieldsOf s).length (fieldsOf s).length) := by
   have := Rep.slice (com := (G.setCom A (fieldsOf s).length).com) (w := w') 1 ((fieldsOf s).map AV.str) A 0 (fieldsOf s).length (fun i => .string (fieldsOf s)[i]!) (fun e he => by obtain ⟨y,_,rfl⟩ := List.mem_map.1 he; exact ⟨rfl,rfl⟩) (by rw [List.length_map]; exact Nat.le_refl _) hmax
    (by rw [List.length_map,hca]; omega) (fun i hi => by rw [List.length_map] at hi; rw [Nat.zero_add]; exact hcell i (by omega)) (fun k e j x hk hj => by
     rw [List.getElem?_map] at hk
     obtain ⟨y,hy,rfl⟩ := Option.map_eq_some_iff.1 hk
     obtain ⟨hk2,hy2⟩ := List.getElem?_eq_some_iff.1 hy
     cases j with
     | succ j => simp [AV.cells] at hj
     | zero =>
      simp [AV.cells] at hj
      subst hj
      rw [Nat.mul_one,Nat.add_zero,getElem!_pos _ k hk2,hy2]
      exact .str _)
   rw [List.length_map] at this
   exact this
  refine ⟨_,strs (fieldsOf s),m,_,rfl,x1,x2,fun b x hx => ?_,hrep,rfl,rfl⟩
  obtain ⟨b1,b2,b3,b4,b5⟩ := hm b x hx
  have hbA : b ≠ A := by omega
  exact ⟨b1,Nat.lt_of_lt_of_le b2 hb.size,b3,(upd_ne _ _ hbA).trans b4,b5.ext x1 (hb.block b b2)⟩
theorem fields_fit (t : ByteArray) (h : t.size ≤ 1000000) : sizesFit (fieldsOf t) := by
 intro x hx
 have hx : x ∈ (Lib.spansOfP sepB t).map fun y => t.extract y.1 y.2 := hx
 obtain ⟨y,_,rfl⟩ := List.mem_map.1 hx
 rw [ByteArray.size_extract]
 omega
theorem read_c (s : RShelf) (hs : shelfFit s) (t : ByteArray) (ht : t.size ≤ 9223372036854775807) : PCall Tryz.prog 26 [shelfA s,.str t] (.tuple [strs (readR s t).1,.int .i64 (readR s t).2]) := by
 intro m
 have hc := letcheck_c s hs
 obtain ⟨E,hE⟩ : ∃ E,E = readR s t := ⟨_,rfl⟩
 rw [← hE]
 unfold readR at hE
 have hmany := fun h => checkS_many (s := s) h
 obtain ⟨c,hcc⟩ : ∃ c,c = checkS s := ⟨_,rfl⟩
 rw [← hcc] at hc hE hmany
 simp only [shelfA,shelfL,strs] at hc ⊢
 by_cases h0 : c.2.2 = 0
 ·rw [if_neg (fun q => q h0)] at hE
  by_cases h1 : 160 < t.size
  ·rw [if_pos h1] at hE
   have e1 : ((160 : Int) < (t.size : Int)) = True := eq_true (by omega)
   (refine acall_intro (E := env fun _ => .imm) (envOk _) rfl Tryz.func26 rfl Tryz.call26 (by kernel_rfl) (by simp [Tryz.ntmps26]) ?_; simp only [Tryz.f26];  simp(maxSteps:=9^9)only[↓VX,VQ,seval])
   (refine ACall.pure (hc) ?_; try simp(maxSteps:=9^9)only[↓VX,VQ,seval])
   simp(maxSteps:=9^9)only[↓VX,VQ,seval,h0,e1]
   rw [hE]; rfl
  ·rw [if_neg h1] at hE
   have e1 : ((160 : Int) < (t.size : Int)) = False := eq_false (by omega)
   have hf := fields_c t (by omega)
   have hle := lettered_c (fieldsOf t) (fields_fit t (by omega))
   have htx := fun (h : letE (fieldsOf t) = 0) => text_c s.width (fieldsOf t) (short_ok h) (by have := hmany h0; omega) (by have := hmany h0; omega)
   obtain ⟨e,hee⟩ : ∃ e,e = letE (fieldsOf t) := ⟨_,rfl⟩
   rw [← hee] at hle hE htx
   generalize fieldsOf t = F at *
   simp only [strs] at hf hle htx
   by_cases h2 : e = 0
   ·have htx2 := htx h2
    clear htx
    subst h2
    by_cases h3 : textOf s.width F = t
    ·rw [if_neg (fun q => q.elim (fun q => q rfl) (fun q => q h3))] at hE
     rw [h3] at htx2
     (refine acall_intro (E := env fun _ => .imm) (envOk _) rfl Tryz.func26 rfl Tryz.call26 (by kernel_rfl) (by simp [Tryz.ntmps26]) ?_; simp only [Tryz.f26];  simp(maxSteps:=9^9)only[↓VX,VQ,seval])
     (refine ACall.pure (hc) ?_; try simp(maxSteps:=9^9)only[↓VX,VQ,seval])
     simp(maxSteps:=9^9)only[↓VX,VQ,seval,h0,e1]
     (refine ACall.pure (hf) ?_; try simp(maxSteps:=9^9)only[↓VX,VQ,seval])
     (refine ACall.pure (hle) ?_; try simp(maxSteps:=9^9)only[↓VX,VQ,seval])
     (refine ACall.pure (htx2) ?_; try simp(maxSteps:=9^9)only[↓VX,VQ,seval])
     rw [hE]
    ·rw [if_pos (.inr h3)] at hE
     have e3 : (textOf s.width F = t) = False := eq_false h3
     (refine acall_intro (E := env fun _ => .imm) (envOk _) rfl Tryz.func26 rfl Tryz.call26 (by kernel_rfl) (by simp [Tryz.ntmps26]) ?_; simp only [Tryz.f26];  simp(maxSteps:=9^9)only[↓VX,VQ,seval])
     (refine ACall.pure (hc) ?_; try simp(maxSteps:=9^9)only[↓VX,VQ,seval])
     simp(maxSteps:=9^9)only[↓VX,VQ,seval,h0,e1]
     (refine ACall.pure (hf) ?_; try simp(maxSteps:=9^9)only[↓VX,VQ,seval])
     (refine ACall.pure (hle) ?_; try simp(maxSteps:=9^9)only[↓VX,VQ,seval])
     (refine ACall.pure (htx2) ?_; try simp(maxSteps:=9^9)only[↓VX,VQ,seval])
     simp(maxSteps:=9^9)only[↓VX,VQ,seval,e3]
     rw [hE]; rfl
   ·rw [if_pos (.inl h2)] at hE
    have e2 : (e = 0) = False := eq_false h2
    (refine acall_intro (E := env fun _ => .imm) (envOk _) rfl Tryz.func26 rfl Tryz.call26 (by kernel_rfl) (by simp [Tryz.ntmps26]) ?_; simp only [Tryz.f26];  simp(maxSteps:=9^9)only[↓VX,VQ,seval])
    (refine ACall.pure (hc) ?_; try simp(maxSteps:=9^9)only[↓VX,VQ,seval])
    simp(maxSteps:=9^9)only[↓VX,VQ,seval,h0,e1]
    (refine ACall.pure (hf) ?_; try simp(maxSteps:=9^9)only[↓VX,VQ,seval])
    (refine ACall.pure (hle) ?_; try simp(maxSteps:=9^9)only[↓VX,VQ,seval])
    simp(maxSteps:=9^9)only[↓VX,VQ,seval,e2]
    rw [hE]; rfl
 ·rw [if_pos h0] at hE
  have e0 : (c.2.2 = 0) = False := eq_false h0
  (refine acall_intro (E := env fun _ => .imm) (envOk _) rfl Tryz.func26 rfl Tryz.call26 (by kernel_rfl) (by simp [Tryz.ntmps26]) ?_; simp only [Tryz.f26];  simp(maxSteps:=9^9)only[↓VX,VQ,seval])
  (refine ACall.pure (hc) ?_; try simp(maxSteps:=9^9)only[↓VX,VQ,seval])
  simp(maxSteps:=9^9)only[↓VX,VQ,seval,e0]
  rw [hE]; rfl
end Go.Proofs.YtdmejgfcaacdoaaGreat.Abs
