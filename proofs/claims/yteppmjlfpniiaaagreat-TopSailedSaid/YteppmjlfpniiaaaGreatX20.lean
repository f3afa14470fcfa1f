/- Lemmas for the statements of this seat (X20): they hold without conditions beyond those that each one states. -/
import Derived.Test.YteppmjlfpniiaaaGreatX19
import Derived.Test.YteppmjlfpniiaaaGreatX14
import Derived.Test.YteppmjlfpniiaaaGreatX6
import Derived.Test.YteppmjlfpniiaaaGreatX15
import Derived.Test.YteppmjlfpniiaaaGreatX12
import Derived.Test.YteppmjlfpniiaaaGreatX9
/- Laws: '==' of stands; maps keyed by stands. -/
namespace Go.Proofs.YteppmjlfpniiaaaGreat.Abs
set_option linter.unusedSimpArgs false
open Go Go.RowKit Go.Proofs
def standV (x : Stand) : Value := .agg #[.int .i64 x.w,.int .i64 x.done,.int .i64 x.at_[0]!,.int .i64 x.at_[1]!,.int .i64 x.at_[2]!]
theorem rep_stand {com : Nat → Nat} {w : World} {x : Stand} {v : Value} (h : Rep com w (standA x) v) : v = standV x := by
  cases h with
  | agg _ vs hl h =>
    have hr : Reps com w (standL x) vs := ⟨hl,h⟩
    unfold standL at hr
    obtain ⟨v1,vs,rfl,r1,hr⟩ := Reps.cons_inv hr
    obtain ⟨v2,vs,rfl,r2,hr⟩ := Reps.cons_inv hr
    obtain ⟨v3,vs,rfl,r3,hr⟩ := Reps.cons_inv hr
    obtain ⟨v4,vs,rfl,r4,hr⟩ := Reps.cons_inv hr
    obtain ⟨v5,vs,rfl,r5,hr⟩ := Reps.cons_inv hr
    obtain rfl := Reps.nil_inv hr
    obtain rfl := rep_int r1; obtain rfl := rep_int r2; obtain rfl := rep_int r3; obtain rfl := rep_int r4; obtain rfl := rep_int r5
    rfl
theorem stand_ext {x y : Stand} (hx : x.at_.length = 3) (hy : y.at_.length = 3) : (decide ((x.w : Int) = y.w) && (decide ((x.done : Int) = y.done) && ((decide (x.at_[0]! = y.at_[0]!) && (decide (x.at_[1]! = y.at_[1]!) && decide (x.at_[2]! = y.at_[2]!))) && true))) = decide (x = y) := by
  rw [Bool.eq_iff_iff]
  simp only [Bool.and_eq_true,decide_eq_true_eq,and_true]
  constructor
  · rintro ⟨h1,h2,h3,h4,h5⟩
    obtain ⟨xw,xd,xa⟩ := x
    obtain ⟨yw,yd,ya⟩ := y
    have h1 : xw = yw := by have h1 : (xw : Int) = yw := h1; omega
    have h2 : xd = yd := by have h2 : (xd : Int) = yd := h2; omega
    have h6 : xa = ya := by
      match xa,hx,ya,hy,h3,h4,h5 with
      | [a,b,c],_,[a',b',c'],_,h3,h4,h5 =>
        have h3 : a = a' := h3
        have h4 : b = b' := h4
        have h5 : c = c' := h5
        rw [h3,h4,h5]
    rw [h1,h2,h6]
  · rintro rfl; simp
theorem eqStepM {d : Nat} {xs ys : Array Value} {f : Field} {fs : List Field} {a b c a' b' c' : Int} {R : Bool} {w : World} (hn : f.name ≠ "_") (ht : f.type = 99) (hx : (part 99 xs f.offset).run Tryz.prog w = .ok (.agg #[.int .i64 a,.int .i64 b,.int .i64 c]) w) (hy : (part 99 ys f.offset).run Tryz.prog w = .ok (.agg #[.int .i64 a',.int .i64 b',.int .i64 c']) w)
    (hr : (Op.eqFields (d + 2) xs ys fs).run Tryz.prog w = .ok R w) : (Op.eqFields (d + 2) xs ys (f :: fs)).run Tryz.prog w = .ok ((decide (a = a') && (decide (b = b') && decide (c = c'))) && R) w := by
  unfold Op.eqFields
  rw [if_pos hn,ht,Sem.run_bind,hx,Result.andThen_ok,Sem.run_bind,hy,Result.andThen_ok,Sem.run_bind,eqMin,Result.andThen_ok]
  generalize (decide (a = a') && (decide (b = b') && decide (c = c'))) = q
  cases q
  · simp
  · simp [hr]
theorem partM (cs : Array Value) (off : Nat) (w : World) : (part 99 cs off).run Tryz.prog w = .ok (.agg (cs.extract off (off + 3))) w := by
  unfold part
  rw [Sem.run_bind,tyok_99.agg w]
  simp [TyI.agg,Sem.run_bind,tyok_99.size w]
theorem eqStand (x y : Stand) (hx : x.at_.length = 3) (hy : y.at_.length = 3) (w : World) : (Op.equal 101 (standV x) (standV y)).run Tryz.prog w = .ok (decide (x = y)) w := by
  have hu : Tryz.prog.underlying 101 = some (.struct (Tryz.prog.fieldsOf 101)) := by kernel_rfl
  have hs : Tryz.prog.stoodInHeld 101 = false := by kernel_rfl
  rw [← stand_ext hx hy]
  show (Op.equalIn 10000 101 (standV x) (standV y)).run Tryz.prog w = _
  unfold standV
  rw [run_equalIn_agg w 9999 101 _ _ hu hs]
  simp only [Program.fieldsOf,Tryz.underlying101]
  exact eqStep (by decide) rfl rfl rfl (eqStep (by decide) rfl rfl rfl (eqStepM (by decide) rfl (partM _ _ w) (partM _ _ w) (by simp [Op.eqFields])))
set_option maxHeartbeats 4000000
set_option maxRecDepth 100000
theorem findS_asking (V : Stand → AV) {x : Stand} (hx : x.at_.length = 3) {com : Nat → Nat} {w : World} : ∀ (ls : List Stand) (es : List MapEntry) (i : Nat),(∀ l ∈ ls,l.at_.length = 3) → ls.length = es.length →
    (∀ (i : Nat) (l : Stand) (m : MapEntry),ls[i]? = some l → es[i]? = some m → Rep com w (standA l) m.key ∧ Rep com w (V l) m.val) →
    if x ∈ ls then ∃ j v,(Instr.findAsking 101 (standV x) es i).run Tryz.prog w = .ok (some (j,v)) w ∧ Rep com w (V x) v else (Instr.findAsking 101 (standV x) es i).run Tryz.prog w = .ok none w
  | [],[],i,_,_,_ => by simp [Instr.findAsking]
  | [],_ :: _,_,_,hl,_ => by simp at hl
  | _ :: _,[],_,_,hl,_ => by simp at hl
  | l :: ls,e :: es,i,hn,hl,hr => by
    have ih := findS_asking V hx ls es (i + 1) (fun y hy => hn y (by simp [hy])) (by simpa using hl) (fun j y m h1 h2 => hr (j + 1) y m (by simpa using h1) (by simpa using h2))
    have h0 := hr 0 l e rfl rfl
    have hk := rep_stand h0.1
    have hln := hn l (by simp)
    have he := eqStand x l hx hln w
    have key : (Instr.findAsking 101 (standV x) (e :: es) i).run Tryz.prog w = if x = l then .ok (some (i,e.val)) w else (Instr.findAsking 101 (standV x) es (i + 1)).run Tryz.prog w := by
      rw [Instr.findAsking,hk,Sem.run_bind,he,Result.andThen_ok]
      by_cases q : x = l
      · simp [q]
      · simp [q]
    by_cases q : x = l
    · subst q
      rw [if_pos (by simp)]
      exact ⟨i,e.val,by rw [key,if_pos rfl],h0.2⟩
    · rw [key,if_neg q]
      have : (x ∈ l :: ls) ↔ x ∈ ls := by simp [q]
      simp only [this]
      exact ih
theorem chkMin (e : Bool) (n : Nat) (a b c : Int) (w : World) : (Instr.checkKey e (n + 2) 99 (.agg #[.int .i64 a,.int .i64 b,.int .i64 c])).run Tryz.prog w = .ok () w := by
  have hsz : (sizeOf 3).run Tryz.prog w = .ok 1 w := tyok_3.size w
  have p0 := part3 (cs := #[Value.int .i64 a,.int .i64 b,.int .i64 c]) (off := 0) rfl w
  have p1 := part3 (cs := #[Value.int .i64 a,.int .i64 b,.int .i64 c]) (off := 1) rfl w
  have p2 := part3 (cs := #[Value.int .i64 a,.int .i64 b,.int .i64 c]) (off := 2) rfl w
  have q := fun a => chk3 e n a w
  rw [Instr.checkKey,Sem.run_bind,run_underlying Tryz.underlying99,Result.andThen_ok]
  generalize hE : Instr.checkKey e (n + 1) = E
  rw [hE] at q
  simp only [Std.Legacy.Range.forIn_eq_forIn_range',Std.Legacy.Range.size,Nat.sub_zero,Nat.add_sub_cancel,Nat.div_one,List.range'_succ,List.range'_zero,List.forIn_cons,List.forIn_nil,Nat.zero_add,Nat.reduceAdd,Nat.zero_mul,Nat.one_mul,Nat.reduceMul,Nat.mul_one,Sem.run_bind,hsz,p0,p1,p2,Result.andThen_ok]
  simp [q,p0,p1,p2,hsz,Sem.run_bind,Sem.run_pure,Result.andThen_ok]
theorem chkStandP (e : Bool) (W D a b c : Int) (w : World) : (Instr.checkKey e 10000 101 (.agg #[.int .i64 W,.int .i64 D,.int .i64 a,.int .i64 b,.int .i64 c])).run Tryz.prog w = .ok () w := by
  have p0 := part3 (cs := #[Value.int .i64 W,.int .i64 D,.int .i64 a,.int .i64 b,.int .i64 c]) (off := 0) rfl w
  have p1 := part3 (cs := #[Value.int .i64 W,.int .i64 D,.int .i64 a,.int .i64 b,.int .i64 c]) (off := 1) rfl w
  have p2 := partM #[Value.int .i64 W,.int .i64 D,.int .i64 a,.int .i64 b,.int .i64 c] 2 w
  simp at p2
  have q0 := chk3 e 9998 W w
  have q1 := chk3 e 9998 D w
  have q2 := chkMin e 9997 a b c w
  rw [show (10000 : Nat) = 9999 + 1 from rfl,Instr.checkKey,Sem.run_bind,run_underlying Tryz.underlying101,Result.andThen_ok]
  simp [Sem.run_bind,p0,p1,p2,q0,q1,q2,Result.andThen_ok]
theorem chkStand (e : Bool) (x : Stand) (w : World) : (Instr.checkKey e 10000 101 (standV x)).run Tryz.prog w = .ok () w := chkStandP e _ _ _ _ _ w
theorem stand_find (V : Stand → AV) {x : Stand} (hx : x.at_.length = 3) (ls : List Stand) (hn : ∀ l ∈ ls,l.at_.length = 3) :
    AggFinds Tryz.prog 101 (standA x) (ls.map fun l => (standA l,V l)) (if x ∈ ls then some (V x) else none) := by
  intro com w vk es hv hlen hr
  obtain rfl := rep_stand hv
  refine ⟨?_,?_⟩
  · exact fun e => chkStand e x w
  · have h := findS_asking V hx (com := com) (w := w) ls es 0 hn (by simpa using hlen) (fun i l m h1 h2 => hr i _ _ m (by rw [List.getElem?_map,h1]; rfl) h2)
    have hf := run_findKey_eq (P := Tryz.prog) (w := w) (k := 101) (by simp [Tryz.underlying101]) (standV x) es
    by_cases q : x ∈ ls
    · rw [if_pos q] at h ⊢
      simp only [hf]
      exact h
    · rw [if_neg q] at h ⊢
      simp only [hf]
      exact h
theorem dnext_c (x : Stand) (hb : Nat) : PCall Tryz.prog 47 [.ptr hb 0,standA x] (.fn (.func 85) [] [.eptr (standL x),.eptr [.ptr hb 0]]) := by
  intro m
  simp only [standA,standL]
  (refine acall_intro (E := env fun _ => .imm) (envOk _) rfl Tryz.func47 rfl Tryz.call47 (by kernel_rfl) (by simp [Tryz.ntmps47]) ?_; simp only [Tryz.f47];  simp(maxSteps:=9^9)only[↓VX,VQ,seval])
structure StOk (h : RHall) (x : Stand) : Prop where
  w : x.w ≤ h.wri.length
  n : x.at_.length = 3
  done : x.done < 32
  a : ∀ i : Nat,i < 3 → 0 ≤ x.at_[i]! ∧ x.at_[i]! ≤ 240
theorem stok_begin (h : RHall) (hd : DOk h) : StOk h (begS h) := by
  refine ⟨by show 0 ≤ _; omega,by unfold begS begT; simp,by show 0 < 32; omega,fun i hi => ?_⟩
  show 0 ≤ (begT h)[i]! ∧ (begT h)[i]! ≤ 240
  unfold begT
  rw [getD_any (by simpa using hi)]
  simp only [List.getElem_map,List.getElem_range]
  by_cases q : i < h.wri.length
  · rw [if_pos q]
    have := hd.wri i q
    omega
  · rw [if_neg q]; omega
theorem goD_end {h : RHall} (hd : DOk h) {ws cs : Nat} {x : Stand} (hx : StOk h x) (hw : x.w < h.wri.length) {c : Nat} (hc : c < h.cus.length) : 0 ≤ endD h x c ∧ endD h x c ≤ 275 ∧ (goD h ws cs x c = true → endD h x c ≤ 240) := by
  have h1 := hd.n
  have h2 := hx.a x.w (by omega)
  have h3 := hd.sl
  have h4 := hd.cus c hc
  unfold endD
  refine ⟨by omega,by omega,fun q => ?_⟩
  unfold goD endD at q
  simp only [Bool.and_eq_true,decide_eq_true_eq] at q
  omega
theorem stok_next {h : RHall} (hd : DOk h) {ws cs : Nat} {x : Stand} (hx : StOk h x) {y : Int × Stand} (hy : y ∈ nxtD h ws cs x) : StOk h y.2 := by
  have h1 := hd.n
  have h5 := hd.m
  have hxw := hx.w
  obtain ⟨q,e | ⟨c,hc,hg,e⟩⟩ := mem_nxtD.1 hy
  · subst e
    exact ⟨by show x.w + 1 ≤ _; omega,hx.n,hx.done,hx.a⟩
  · subst e
    obtain ⟨e1,_,e2⟩ := goD_end (ws := ws) (cs := cs) hd hx (by omega) hc
    have e2 := e2 hg
    refine ⟨hx.w,by show (x.at_.set _ _).length = 3; rw [List.length_set]; exact hx.n,?_,fun i hi => ?_⟩
    · show x.done ||| 2 ^ c < 2 ^ 5
      exact Nat.or_lt_two_pow hx.done (Nat.pow_lt_pow_right (by decide) (by omega))
    · show 0 ≤ (x.at_.set x.w (endD h x c))[i]! ∧ (x.at_.set x.w (endD h x c))[i]! ≤ 240
      have : (x.at_.set x.w (endD h x c))[i]! = if x.w = i then endD h x c else x.at_[i]! := by
        rw [getD_any (by rw [List.length_set,hx.n]; exact hi),List.getElem_set]
        split
        · rfl
        · rw [getD_any (by rw [hx.n]; exact hi)]
      rw [this]
      split
      · exact ⟨e1,e2⟩
      · exact hx.a i hi
theorem bit01 (n c : Nat) : ((n / 2 ^ c &&& 1 : Nat) : Int) = if n.testBit c = true then 1 else 0 := by
  rw [Nat.and_one_is_mod,Nat.testBit_eq_decide_div_mod_eq]
  simp only [decide_eq_true_eq]
  split <;> omega
def nxtTo (h : RHall) (ws cs : Nat) (x : Stand) (i : Nat) : List (Int × Stand) := (-1,{ x with w := x.w + 1 }) :: ((List.range i).filter (goD h ws cs x)).map fun (c : Nat) => ((c : Int),putD h x c)
theorem nxtTo_succ (h : RHall) (ws cs : Nat) (x : Stand) (i : Nat) : nxtTo h ws cs x (i + 1) = if goD h ws cs x i = true then nxtTo h ws cs x i ++ [((i : Int),putD h x i)] else nxtTo h ws cs x i := by
  unfold nxtTo
  rw [List.range_succ,List.filter_append,List.map_append]
  by_cases q : goD h ws cs x i = true
  · simp [q]
  · simp [q]
theorem nxtTo_all {h : RHall} {ws cs : Nat} {x : Stand} (hw : x.w ≠ h.wri.length) : nxtTo h ws cs x h.cus.length = nxtD h ws cs x := by
  unfold nxtTo nxtD; rw [if_neg hw]
theorem nxtTo_pre (h : RHall) (ws cs : Nat) (x : Stand) (i : Nat) : ∀ k,nxtTo h ws cs x i <+: nxtTo h ws cs x (i + k)
  | 0 => List.prefix_rfl
  | k + 1 => by
    refine (nxtTo_pre h ws cs x i k).trans ?_
    rw [show i + (k + 1) = i + k + 1 by omega,nxtTo_succ]
    split
    · exact List.prefix_append _ _
    · exact List.prefix_rfl
theorem nxtTo_at {h : RHall} {ws cs : Nat} {x : Stand} (hw : x.w ≠ h.wri.length) {i : Nat} (hi : i < h.cus.length) (hg : goD h ws cs x i = true) : nxtTo h ws cs x i ++ [((i : Int),putD h x i)] <+: nxtD h ws cs x := by
  have e := nxtTo_succ h ws cs x i
  rw [if_pos hg] at e
  rw [← e,← nxtTo_all hw]
  have := nxtTo_pre h ws cs x (i + 1) (h.cus.length - (i + 1))
  rwa [show i + 1 + (h.cus.length - (i + 1)) = h.cus.length by omega] at this
theorem mem_of_pre {α : Type} {pre l : List α} {y : α} (h : pre ++ [y] <+: l) : y ∈ l := by
  obtain ⟨t,rfl⟩ := h
  simp
theorem dnext1_c (h : RHall) (hd : DOk h) (ws cs km hb : Nat) (hws : ws < 8) (hcs : cs < 32) (x : Stand) (hx : StOk h x) (l : Nat) {J : List (Int × Stand) → Mem → Prop} {F : Mem → Prop} (hJ : ∀ pre m,J pre m → m hb = some (.cells (hallC h ws cs km)))
    (hy : ∀ pre y m,pre ++ [y] <+: nxtD h ws cs x → J pre m → AYield Tryz.prog l [.int .i64 y.1,standA y.2] m fun r m' => (r = .bool true ∧ J (pre ++ [y]) m') ∨ (r = .bool false ∧ F m')) (m : Mem) (h0 : J [] m) :
    ACall Tryz.prog 85 [.fn (.yield l) [] [],.eptr (standL x),.eptr [.ptr hb 0]] m fun _ m' => J (nxtD h ws cs x) m' ∨ F m' := by
  have hn := hd.n
  have hm5 := hd.m
  have hsl := hd.sl
  have hxw := hx.w
  have hxd := hx.done
  have hmm := hJ [] m h0
  simp only [hallC,hallL,standA,standL,List.cons_append,List.nil_append] at hmm hJ hy ⊢
  by_cases hwe : x.w = h.wri.length
  · have e0 : ((x.w : Int) = (h.wri.length : Int)) = True := by simp; omega
    have e1 : nxtD h ws cs x = [] := by unfold nxtD; rw [if_pos hwe]
    rw [e1]
    (refine acall_intro (E := envC (modeAt [4] []) false []) (envCOk _ _ _) rfl Tryz.func85 rfl Tryz.call85 (by kernel_rfl) (by simp [Tryz.ntmps85]) ?_; simp only [Tryz.f85];  simp(maxSteps:=9^9)only[↓VX,VQ,seval,e0])
    (refine adraw (by first | exact envOk _ | exact envCOk _ _ _) mixed [⟨false,false,0⟩,⟨false,false,0⟩,⟨false,false,0⟩,⟨false,false,0⟩,⟨false,false,0⟩,⟨false,false,0⟩,⟨false,false,0⟩,⟨false,false,0⟩,⟨false,false,0⟩] (by kernel_rfl) ?_; show vcOpsD _ _ _ (_ :: _) _ _)
    simp(maxSteps:=9^9)only[↓VX,VQ,seval,hmm,e0]
    exact .inl h0
  · have e0 : ((x.w : Int) = (h.wri.length : Int)) = False := by simp; omega
    have hy1 := hy [] (-1,{ x with w := x.w + 1 }) m (by rw [← nxtTo_all hwe]; have := nxtTo_pre h ws cs x 0 h.cus.length; rwa [Nat.zero_add] at this) h0
    simp only [Int.natCast_add,Int.natCast_one] at hy1
    (refine acall_intro (E := envC (modeAt [4] []) false []) (envCOk _ _ _) rfl Tryz.func85 rfl Tryz.call85 (by kernel_rfl) (by simp [Tryz.ntmps85]) ?_; simp only [Tryz.f85];  simp(maxSteps:=9^9)only[↓VX,VQ,seval,e0])
    (refine adraw (by first | exact envOk _ | exact envCOk _ _ _) mixed [⟨false,false,0⟩,⟨false,false,0⟩,⟨false,false,0⟩,⟨false,false,0⟩,⟨false,false,0⟩,⟨false,false,0⟩,⟨false,false,0⟩,⟨false,false,0⟩,⟨false,false,0⟩] (by kernel_rfl) ?_; show vcOpsD _ _ _ (_ :: _) _ _)
    simp(maxSteps:=9^9)only[↓VX,VQ,seval,hmm,e0]
    repeat'(first|intro _|apply And.intro)
    all_goals try first|omega|(simp only[LL];omega)|exact nlC (by decide) _|exact nbC rfl
    refine AYield.mono hy1 ?_
    rintro r m1 (⟨rfl,hr⟩ | ⟨rfl,hr⟩)
    · have hm1 := hJ _ _ hr
      have hput : ∀ (c : Nat) (j : Nat),j < 3 → (putD h x c).at_[j]! = if x.w = j then x.at_[x.w]! + (h.cus[c]!).hi + h.sl else x.at_[j]! := fun c j hj => by
        show (x.at_.set x.w (endD h x c))[j]! = _
        rw [getD_any (by rw [List.length_set,hx.n]; exact hj),List.getElem_set]
        split
        · rfl
        · rw [getD_any (by rw [hx.n]; exact hj)]
      have hxa := hx.a
      have hx3 : x.w < 3 := by omega
      simp(maxSteps:=9^9)only[↓VX,VQ,seval,hm1]
      repeat'(first|intro _|apply And.intro)
      all_goals try first|omega|(simp only[LL];omega)|exact nlC (by decide) _|exact nbC rfl
      refine aloop (envCOk _ _ _) (fun s : Nat × (Int × Int × Int × Int × Int) × Mem => ⟨[(0,.v (.fn (.yield l) [] [])),(1,.v (.eptr [.int .i64 x.w,.int .i64 x.done,.int .i64 x.at_[0]!,.int .i64 x.at_[1]!,.int .i64 x.at_[2]!])),(2,.v (.eptr [.ptr hb 0])),(4,.loc 4 0),(5,.v (.fn (.func 86) [.ptr hb 0] [])),(33,.v (.int .i64 h.cus.length)),(34,.v (.int .i64 s.1))],[],
          [(4,[.int .i64 s.2.1.1,.int .i64 s.2.1.2.1,.int .i64 s.2.1.2.2.1,.int .i64 s.2.1.2.2.2.1,.int .i64 s.2.1.2.2.2.2])],s.2.2⟩)
        (fun s => s.1 ≤ h.cus.length ∧ J (nxtTo h ws cs x s.1) s.2.2) (fun s => h.cus.length - s.1) (0,((x.w : Int) + 1,(x.done : Int),x.at_[0]!,x.at_[1]!,x.at_[2]!),m1) (fun _ => rfl) ⟨by dsimp only; omega,hr⟩ (by (simp only [FE,↓FP,seval]); try simp) ?_
      rintro ⟨i,⟨w,d,a,b,c⟩,m2⟩ ⟨hi,hJi⟩
      dsimp only at hi hJi
      have hm2 := hJ _ _ hJi
      rcases Nat.lt_or_ge i h.cus.length with hil | hge
      · have hcus := hd.cus i hil
        have hcan := dcan_c h hd ws cs km hb hws x.w i (by omega) hil m2 hm2
        obtain ⟨hE1,hE2,hE3⟩ := goD_end (ws := ws) (cs := cs) hd hx (by omega) hil
        have hgo : goD h ws cs x i = (cs.testBit i && (!x.done.testBit i && (canD h ws x.w i && decide (endD h x i ≤ (h.cus[i]!).ship)))) := rfl
        have hsu := nxtTo_succ h ws cs x i
        have hb1 := bit01 cs i
        have hb2 := bit01 x.done i
        have hy2 := hy (nxtTo h ws cs x i) ((i : Int),putD h x i) m2
        have hp0 := hput i 0 (by decide)
        have hp1 := hput i 1 (by decide)
        have hp2 := hput i 2 (by decide)
        have hpw : (putD h x i).w = x.w := rfl
        have hpd : (putD h x i).done = x.done ||| 2 ^ i := rfl
        have hat : 0 ≤ x.at_[x.w]! ∧ x.at_[x.w]! ≤ 240 := hxa _ hx3
        have hat2 : x.w = 0 ∧ x.at_[x.w]! = x.at_[0]! ∨ x.w = 1 ∧ x.at_[x.w]! = x.at_[1]! ∨ x.w = 2 ∧ x.at_[x.w]! = x.at_[2]! := by
          rcases (by omega : x.w = 0 ∨ x.w = 1 ∨ x.w = 2) with q | q | q <;> rw [q] <;> simp
        have hgm : goD h ws cs x i = true → nxtTo h ws cs x i ++ [((i : Int),putD h x i)] <+: nxtD h ws cs x := nxtTo_at hwe hil
        have hEd : endD h x i = x.at_[x.w]! + (h.cus[i]!).hi + h.sl := rfl
        simp only [hp0,hp1,hp2,hpw,hpd] at hy2
        have hil' : ((i : Int) < (h.cus.length : Int)) = True := by simp; omega
        have hk1 : cs / 2 ^ i ≤ cs := Nat.div_le_self _ _
        have hk2 : x.done / 2 ^ i ≤ x.done := Nat.div_le_self _ _
        have hpow : 2 ^ i ≤ 16 := by
          have : 2 ^ i ≤ 2 ^ 4 := Nat.pow_le_pow_right (by decide) (by omega)
          omega
        have hor : x.done ||| 2 ^ i < 2 ^ 5 := Nat.or_lt_two_pow hxd (Nat.pow_lt_pow_right (by decide) (by omega))
        clear hput hxa hJ hy hm1 hmm
        have hq : (cs.testBit i = false ∧ True ∧ True ∧ True) ∨ (cs.testBit i = true ∧ x.done.testBit i = true ∧ True ∧ True) ∨ (cs.testBit i = true ∧ x.done.testBit i = false ∧ canD h ws x.w i = false ∧ True) ∨ (cs.testBit i = true ∧ x.done.testBit i = false ∧ canD h ws x.w i = true ∧ ¬ endD h x i ≤ (h.cus[i]!).ship) ∨ (cs.testBit i = true ∧ x.done.testBit i = false ∧ canD h ws x.w i = true ∧ endD h x i ≤ (h.cus[i]!).ship) := by
          rcases Bool.eq_false_or_eq_true (cs.testBit i) with q1 | q1 <;> rcases Bool.eq_false_or_eq_true (x.done.testBit i) with q2 | q2 <;> rcases Bool.eq_false_or_eq_true (canD h ws x.w i) with q3 | q3 <;> simp [q1,q2,q3] <;> omega
        rcases hat2 with ⟨q,qa⟩ | ⟨q,qa⟩ | ⟨q,qa⟩
        all_goals
          rw [qa] at hEd
          simp only [q,qa,if_true,Nat.reduceEqDiff,if_false] at hy2 hcan hgo hat hq ⊢
          rw [hEd] at hq
          rcases hq with ⟨q1,q2,q3,q4⟩ | ⟨q1,q2,q3,q4⟩ | ⟨q1,q2,q3,q4⟩ | ⟨q1,q2,q3,q4⟩ | ⟨q1,q2,q3,q4⟩
          all_goals
            simp only [hEd,q1,q2,q3,q4,decide_true,decide_false,Bool.and_true,Bool.and_false,Bool.not_true,Bool.not_false,Bool.false_and,Bool.true_and] at hgo
            simp(maxSteps:=9^9)only[↓VX,VQ,seval,hm2,↓ixCus,hil']
            (refine adraw (by first | exact envOk _ | exact envCOk _ _ _) mixed [⟨false,false,0⟩,⟨false,false,0⟩,⟨false,false,0⟩,⟨false,false,0⟩,⟨false,false,0⟩,⟨false,false,0⟩,⟨false,false,0⟩,⟨false,false,0⟩,⟨false,false,0⟩,⟨false,false,0⟩,⟨false,false,0⟩,⟨false,false,0⟩,⟨false,false,0⟩,⟨false,false,0⟩,⟨false,false,0⟩,⟨false,false,0⟩,⟨false,false,0⟩,⟨false,false,0⟩,⟨false,false,0⟩,⟨false,false,0⟩,⟨false,false,0⟩,⟨false,false,0⟩,⟨false,false,0⟩] (by kernel_rfl) ?_; show vcOpsD _ _ _ (_ :: _) _ _)
            simp(maxSteps:=9^9)only[↓VX,VQ,seval,hm2,↓ixCus,cusA,q1,q2]
            repeat'(first|intro _|apply And.intro)
            all_goals try first|omega|(simp only[LL];omega)|exact nlC (by decide) _|exact nbC rfl
            try (refine ACall.told hcan ?_; rintro r m3 ⟨rfl,rfl⟩; simp(maxSteps:=9^9)only[↓VX,VQ,seval,hm2,↓ixCus,q3,q4]; try (repeat'(first|intro _|apply And.intro); all_goals try first|omega|(simp only[LL];omega)|exact nlC (by decide) _|exact nbC rfl))
            first
            | (rw [if_neg (by rw [hgo]; decide)] at hsu
               refine ⟨(i + 1,(w,d,a,b,c),_),⟨by dsimp only; omega,by dsimp only; rw [hsu]; exact hJi⟩,by dsimp only; omega,?_⟩
               (simp only [FE,↓FP,seval])
               try simp)
            | (rw [if_pos hgo] at hsu
               (refine adraw (by first | exact envOk _ | exact envCOk _ _ _) mixed [⟨false,false,0⟩,⟨false,false,0⟩,⟨false,false,0⟩,⟨false,false,0⟩,⟨false,false,0⟩,⟨false,false,0⟩,⟨false,false,0⟩] (by kernel_rfl) ?_; show vcOpsD _ _ _ (_ :: _) _ _)
               simp(maxSteps:=9^9)only[↓VX,VQ,seval]
               repeat'(first|intro _|apply And.intro)
               all_goals try first|omega|(simp only[LL];omega)|exact nlC (by decide) _|exact nbC rfl
               refine AYield.mono (hy2 (hgm hgo) hJi) ?_
               rintro r m3 (⟨rfl,hr⟩ | ⟨rfl,hr⟩)
               · simp(maxSteps:=9^9)only[↓VX,VQ,seval]
                 repeat'(first|intro _|apply And.intro)
                 all_goals try first|omega|(simp only[LL];omega)|exact nlC (by decide) _|exact nbC rfl
                 rw [← hsu] at hr
                 refine ⟨(i + 1,((x.w : Nat),((x.done ||| 2 ^ i : Nat) : Int),(if x.w = 0 then x.at_[0]! + (h.cus[i]!).hi + h.sl else x.at_[0]!),(if x.w = 1 then x.at_[1]! + (h.cus[i]!).hi + h.sl else x.at_[1]!),(if x.w = 2 then x.at_[2]! + (h.cus[i]!).hi + h.sl else x.at_[2]!)),m3),⟨by dsimp only; omega,hr⟩,by dsimp only; omega,?_⟩
                 (simp only [FE,↓FP,seval])
                 simp [q,overlay]
               · simp(maxSteps:=9^9)only[↓VX,VQ,seval]
                 exact .inr hr)
      · have hie : i = h.cus.length := by omega
        subst hie
        rw [nxtTo_all hwe] at hJi
        simp(maxSteps:=9^9)only[↓VX,VQ,seval]
        repeat'(first|intro _|apply And.intro)
        all_goals try first|omega|(simp only[LL];omega)|exact nlC (by decide) _|exact nbC rfl
        exact .inl hJi
    · simp(maxSteps:=9^9)only[↓VX,VQ,seval]
      exact .inr hr
theorem eqFlatMin (a b c a' b' c' : Int) : EqFlat Tryz.prog 99 [.int .i64 a,.int .i64 b,.int .i64 c] [.int .i64 a',.int .i64 b',.int .i64 c'] (decide (a = a') && (decide (b = b') && (decide (c = c') && true))) := by
  intro vs vs' com w x y h h'
  obtain ⟨v1,vs,rfl,r1,h⟩ := Reps.cons_inv h
  obtain ⟨v2,vs,rfl,r2,h⟩ := Reps.cons_inv h
  obtain ⟨v3,vs,rfl,r3,h⟩ := Reps.cons_inv h
  obtain rfl := Reps.nil_inv h
  obtain ⟨u1,us,rfl,s1,h'⟩ := Reps.cons_inv h'
  obtain ⟨u2,us,rfl,s2,h'⟩ := Reps.cons_inv h'
  obtain ⟨u3,us,rfl,s3,h'⟩ := Reps.cons_inv h'
  obtain rfl := Reps.nil_inv h'
  obtain rfl := rep_int r1; obtain rfl := rep_int r2; obtain rfl := rep_int r3
  obtain rfl := rep_int s1; obtain rfl := rep_int s2; obtain rfl := rep_int s3
  have hg : Tryz.prog.eqGuardType Tryz.prog.depth 99 = false := by kernel_rfl
  have key := eqMin 9998 a b c a' b' c' w
  rw [Bool.and_true]
  constructor
  · rw [Sem.run_bind,run_eqGuard_agg w .eql 99 x y _ _ hg,Result.andThen_ok,run_eql_struct,key]; rfl
  · rw [Sem.run_bind,run_eqGuard_agg w .neq 99 x y _ _ hg,Result.andThen_ok,run_neq_struct,key]; rfl
theorem eqFlatStand (x y : Stand) (hx : x.at_.length = 3) (hy : y.at_.length = 3) : EqFlat Tryz.prog 101 (standL x) (standL y) (decide (x = y)) := by
  intro vs vs' com w a b h h'
  have hl : ∀ (x : Stand) (vs : List Value),Reps com w (standL x) vs → Value.agg vs.toArray = standV x := fun x vs h => rep_stand (Rep.agg _ _ h.1 h.2)
  rw [hl x vs h,hl y vs' h']
  have hg : Tryz.prog.eqGuardType Tryz.prog.depth 101 = false := by kernel_rfl
  have key := eqStand x y hx hy w
  change (Op.equalIn 10000 101 (standV x) (standV y)).run Tryz.prog w = _ at key
  unfold standV at *
  constructor
  · rw [Sem.run_bind,run_eqGuard_agg w .eql 101 a b _ _ hg,Result.andThen_ok,run_eql_struct,key]; rfl
  · rw [Sem.run_bind,run_eqGuard_agg w .neq 101 a b _ _ hg,Result.andThen_ok,run_neq_struct,key]; rfl
def knownS (h : RHall) (ws cs : Nat) (ls : List Stand) : List (AV × AV) := ls.map fun l => (standA l,.int .i64 (overD h ws cs l))
theorem knownS_add (h : RHall) (ws cs : Nat) (ls : List Stand) (x : Stand) : knownS h ws cs ls ++ [(standA x,.int .i64 (overD h ws cs x))] = knownS h ws cs (ls ++ [x]) := by
  unfold knownS; rw [List.map_append]; rfl
theorem knownS_find (h : RHall) (ws cs : Nat) {x : Stand} (hx : x.at_.length = 3) (ls : List Stand) (hn : ∀ l ∈ ls,l.at_.length = 3) :
    AggFinds Tryz.prog 101 (standA x) (knownS h ws cs ls) (if x ∈ ls then some (.int .i64 (overD h ws cs x)) else none) :=
  stand_find (fun l => .int .i64 (overD h ws cs l)) hx ls hn
def lateM (h : RHall) (x : Stand) (n : Nat) : Int := (List.range n).foldl (fun b i => if (begT h)[i]! < x.at_[i]! then max b (x.at_[i]!) else b) 0
theorem lateM_succ (h : RHall) (x : Stand) (n : Nat) : lateM h x (n + 1) = if (begT h)[n]! < x.at_[n]! then max (lateM h x n) (x.at_[n]!) else lateM h x n := by
  unfold lateM; rw [List.range_succ,List.foldl_append]; rfl
def bestN (h : RHall) (ws cs : Nat) (b : Int) (pre : List (Int × Stand)) : Int := pre.foldl (fun b y => lessD b (overD h ws cs y.2)) b
theorem bestN_snoc (h : RHall) (ws cs : Nat) (b : Int) (pre : List (Int × Stand)) (y : Int × Stand) : bestN h ws cs b (pre ++ [y]) = lessD (bestN h ws cs b pre) (overD h ws cs y.2) := by
  unfold bestN; rw [List.foldl_append]; rfl
structure OverJ (h : RHall) (ws cs km : Nat) (B : Int) (b7 l : Nat) (R : LoopA) (L : List Stand) (x : Stand) (m : Mem) (pre : List (Int × Stand)) (m1 : Mem) : Prop where
  l : m1 l = some (.loop .ready none R)
  b : m1 b7 = some (.cells [.int .i64 (bestN h ws cs B pre)])
  k : ∃ L',(∀ l ∈ L',l.at_.length = 3) ∧ (∀ y ∈ L',y ∈ L ∨ leftD h y < leftD h x) ∧ m1 km = some (.map (knownS h ws cs L'))
  s : Keeps (fun k => k = km) m m1
theorem dover_c (h : RHall) (hd : DOk h) (ws cs km hb : Nat) (hws : ws < 8) (hcs : cs < 32) : ∀ (n : Nat) (x : Stand),StOk h x → leftD h x < n → ∀ (L : List Stand) (m : Mem),(∀ l ∈ L,l.at_.length = 3) → m hb = some (.cells (hallC h ws cs km)) → m km = some (.map (knownS h ws cs L)) →
    ACall Tryz.prog 45 [.ptr hb 0,standA x] m fun r m' => r = .int .i64 (overD h ws cs x) ∧ (∃ L',(∀ l ∈ L',l.at_.length = 3) ∧ (∀ l ∈ L',l ∈ L ∨ leftD h l ≤ leftD h x) ∧ m' km = some (.map (knownS h ws cs L'))) ∧ Keeps (fun k => k = km) m m'
  | 0,x,_,hf,_,_,_,_,_ => absurd hf (Nat.not_lt_zero _)
  | n + 1,x,hx,hf,L,m,hL,hm,hk => by
    have ih := dover_c h hd ws cs km hb hws hcs n
    have hx3 := hx.n
    have hxd := hx.done
    have hn := hd.n
    have hfind := knownS_find h ws cs hx3 L hL
    have hm0 := hm
    by_cases hin : x ∈ L
    · rw [if_pos hin] at hfind
      refine ACall.mono (K := fun r m' => r = .int .i64 (overD h ws cs x) ∧ m' = m) ?_ fun r m' ⟨h1,h2⟩ => ⟨h1,⟨L,hL,fun l hl => .inl hl,by rw [h2]; exact hk⟩,by rw [h2]; exact Keeps.refl _ _⟩
      simp only [hallC,hallL,standA,standL,List.cons_append,List.nil_append] at hm hfind ⊢
      (refine acall_intro (E := envC (modeAt [8,12] [7]) false []) (envCOk _ _ _) rfl Tryz.func45 rfl Tryz.call45 (by kernel_rfl) (by simp [Tryz.ntmps45]) ?_; simp only [Tryz.f45];  simp(maxSteps:=9^9)only[↓VX,VQ,seval,hm,hk])
      (refine adraw (by first | exact envOk _ | exact envCOk _ _ _) mixed [⟨false,false,0⟩,⟨false,false,0⟩,⟨false,false,0⟩,⟨false,false,0⟩,⟨false,false,0⟩,⟨false,false,0⟩,⟨false,false,0⟩,⟨false,false,0⟩,⟨false,false,0⟩,⟨false,false,0⟩,⟨false,false,0⟩] (by kernel_rfl) ?_; show vcOpsD _ _ _ (_ :: _) _ _)
      simp(maxSteps:=9^9)only[↓VX,VQ,seval,hm,hk]
      refine VFind.of hfind ?_
      simp(maxSteps:=9^9)only[↓VX,VQ,seval]
    · rw [if_neg hin] at hfind
      refine ACall.forget ?_
      have hbeg := dbegin_c h hd ws cs km hb
      have hnx := dnext_c x hb
      have hnx1 := fun (l : Nat) (J : List (Int × Stand) → Mem → Prop) (F : Mem → Prop) hJ hy m h0 => dnext1_c h hd ws cs km hb hws hcs x hx l (J := J) (F := F) hJ hy m h0
      have hbase : baseD h cs x = if x.w = h.wri.length ∧ x.done = cs then lateD h x else -1 := rfl
      have hover := overD_eq (ws := ws) (cs := cs) hx.w
      have hla : lateM h x 3 = lateD h x := rfl
      have hls := fun i => lateM_succ h x i
      have ha := hx.a
      have hbegA : standA (begS h) = .agg [.int .i64 0,.int .i64 0,.int .i64 (begT h)[0]!,.int .i64 (begT h)[1]!,.int .i64 (begT h)[2]!] := rfl
      rw [hbegA] at hbeg
      have hmk : ∀ b,m b = none → b ≠ hb ∧ b ≠ km := fun b e => ⟨(by rintro rfl; rw [hm] at e; cases e),(by rintro rfl; rw [hk] at e; cases e)⟩
      simp only [hallC,hallL,standA,standL,List.cons_append,List.nil_append] at hm hfind hbeg hnx hnx1 ih ⊢
      (refine acall_intro (E := envC (modeAt [8,12] [7]) false []) (envCOk _ _ _) rfl Tryz.func45 rfl Tryz.call45 (by kernel_rfl) (by simp [Tryz.ntmps45]) ?_; simp only [Tryz.f45];  simp(maxSteps:=9^9)only[↓VX,VQ,seval,hm,hk])
      (refine adraw (by first | exact envOk _ | exact envCOk _ _ _) mixed [⟨false,false,0⟩,⟨false,false,0⟩,⟨false,false,0⟩,⟨false,false,0⟩,⟨false,false,0⟩,⟨false,false,0⟩,⟨false,false,0⟩,⟨false,false,0⟩,⟨false,false,0⟩,⟨false,false,0⟩,⟨false,false,0⟩] (by kernel_rfl) ?_; show vcOpsD _ _ _ (_ :: _) _ _)
      simp(maxSteps:=9^9)only[↓VX,VQ,seval,hm,hk]
      refine VFind.of hfind ?_
      simp(maxSteps:=9^9)only[↓VX,VQ,seval]
      intro b7 hb7
      obtain ⟨n7,k7⟩ := hmk b7 hb7
      repeat'(first|intro _|apply And.intro)
      all_goals try first|omega|(simp only[LL];omega)|exact nlC (by decide) _|exact nbC rfl
      have hq : (((x.w : Int) = (h.wri.length : Int)) = True ∧ ((x.done : Int) = (cs : Int)) = True ∧ baseD h cs x = lateD h x) ∨ (((x.w : Int) = (h.wri.length : Int)) = True ∧ ((x.done : Int) = (cs : Int)) = False ∧ baseD h cs x = -1) ∨ (((x.w : Int) = (h.wri.length : Int)) = False ∧ True ∧ baseD h cs x = -1) := by
        rw [hbase]
        rcases Nat.decEq x.w h.wri.length with q | q
        · have q' : ((x.w : Int) = (h.wri.length : Int)) = False := by simp; omega
          exact .inr (.inr ⟨q',trivial,if_neg fun e => q e.1⟩)
        · have q' : ((x.w : Int) = (h.wri.length : Int)) = True := by simp; omega
          rcases Nat.decEq x.done cs with q2 | q2
          · have q3 : ((x.done : Int) = (cs : Int)) = False := by simp; omega
            exact .inr (.inl ⟨q',q3,if_neg fun e => q2 e.2⟩)
          · have q3 : ((x.done : Int) = (cs : Int)) = True := by simp; omega
            exact .inl ⟨q',q3,if_pos ⟨q,q2⟩⟩
      (refine adraw (by first | exact envOk _ | exact envCOk _ _ _) mixed [⟨false,false,0⟩,⟨false,false,0⟩,⟨false,false,0⟩,⟨false,false,0⟩,⟨false,false,0⟩,⟨false,false,0⟩,⟨false,false,0⟩,⟨false,false,0⟩,⟨false,false,0⟩,⟨false,false,0⟩,⟨false,false,0⟩,⟨false,false,0⟩,⟨false,false,0⟩,⟨false,false,0⟩,⟨false,false,0⟩,⟨false,false,0⟩,⟨false,false,0⟩,⟨false,false,0⟩] (by kernel_rfl) ?_; show vcOpsD _ _ _ (_ :: _) _ _)
      rcases hq with ⟨e1,e2,e3⟩ | ⟨e1,e2,e3⟩ | ⟨e1,e2,e3⟩
      focus
        simp(maxSteps:=9^9)only[↓VX,VQ,seval,hm,n7,n7.symm,e1,e2]
        refine ACall.told (hbeg _ (by simp [upd,n7.symm]; exact hm)) ?_
        rintro r m1 ⟨rfl,rfl⟩
        simp(maxSteps:=9^9)only[↓VX,VQ,seval]
        repeat'(first|intro _|apply And.intro)
        all_goals try first|omega|(simp only[LL];omega)|exact nlC (by decide) _|exact nbC rfl
        have hec : eqCells [.int .i64 x.at_[0]!,.int .i64 x.at_[1]!,.int .i64 x.at_[2]!] [.int .i64 (begT h)[0]!,.int .i64 (begT h)[1]!,.int .i64 (begT h)[2]!] = some (decide (x.at_[0]! = (begT h)[0]!) && (decide (x.at_[1]! = (begT h)[1]!) && (decide (x.at_[2]! = (begT h)[2]!) && true))) := by simp [eqCells]
        have hef := eqFlatMin x.at_[0]! x.at_[1]! x.at_[2]! (begT h)[0]! (begT h)[1]! (begT h)[2]!
        have hE : (decide (x.at_[0]! = (begT h)[0]!) && (decide (x.at_[1]! = (begT h)[1]!) && (decide (x.at_[2]! = (begT h)[2]!) && true))) = true → x.at_[0]! = (begT h)[0]! ∧ x.at_[1]! = (begT h)[1]! ∧ x.at_[2]! = (begT h)[2]! := by simp
        generalize (decide (x.at_[0]! = (begT h)[0]!) && (decide (x.at_[1]! = (begT h)[1]!) && (decide (x.at_[2]! = (begT h)[2]!) && true))) = E at *
        refine aloop (envCOk _ _ _) (fun i : Nat => ⟨[(2,.v (.eptr [.ptr hb 0])),(3,.v (.eptr [.int .i64 x.w,.int .i64 x.done,.int .i64 x.at_[0]!,.int .i64 x.at_[1]!,.int .i64 x.at_[2]!])),(7,.v (.ptr b7 0)),(8,.loc 8 0),(46,.v (.agg [.int .i64 x.at_[0]!,.int .i64 x.at_[1]!,.int .i64 x.at_[2]!])),(47,.v (.int .i64 i))],[],
            [(8,[.int .i64 0,.int .i64 0,.int .i64 (begT h)[0]!,.int .i64 (begT h)[1]!,.int .i64 (begT h)[2]!])],upd m b7 (some (.cells [.int .i64 (lateM h x i)]))⟩)
          (fun i => i ≤ 3) (fun i => 3 - i) 0 (fun _ => rfl) (by decide) (by (simp only [FE,↓FP,seval]); simp [upd_upd,lateM]) ?_
        intro i hi
        rcases Nat.lt_or_ge i 3 with hlt | hge
        · have hls1 := hls i
          have hi3 : i = 0 ∨ i = 1 ∨ i = 2 := by omega
          rcases hi3 with rfl | rfl | rfl
          all_goals
            simp(maxSteps:=9^9)only[↓VX,VQ,seval,hec]
            refine ⟨hef,?_⟩
            repeat'(first|intro _|apply And.intro)
            all_goals try first|omega|(simp only[LL];omega)|exact nlC (by decide) _|exact nbC rfl
            all_goals
              first
              | (rw [if_pos (by assumption)] at hls1)
              | (rw [if_neg (by assumption)] at hls1)
              | (have hE' := hE (by simpa using (by assumption : ¬ E = false)); rw [if_neg (by omega)] at hls1)
              simp only [Nat.reduceAdd] at hls1
              first
              | (refine ⟨1,by dsimp only; omega,by dsimp only; omega,?_⟩; (simp only [FE,↓FP,seval]); simp [upd_upd,hls1]; done)
              | (refine ⟨2,by dsimp only; omega,by dsimp only; omega,?_⟩; (simp only [FE,↓FP,seval]); simp [upd_upd,hls1]; done)
              | (refine ⟨3,by dsimp only; omega,by dsimp only; omega,?_⟩; (simp only [FE,↓FP,seval]); simp [upd_upd,hls1]; done)
        have hie : i = 3 := by omega
        subst hie
        simp(maxSteps:=9^9)only[↓VX,VQ,seval]
        rw [hla,← e3]
      rotate_left
      simp(maxSteps:=9^9)only[↓VX,VQ,seval,hm,n7,n7.symm,e1,e2]
      rw [show upd (upd m b7 (some (Box.cells [.int .i64 0]))) b7 (some (.cells [.int .i64 (-1)])) = upd m b7 (some (.cells [.int .i64 (baseD h cs x)])) by rw [upd_upd,e3]]
      rotate_left
      simp(maxSteps:=9^9)only[↓VX,VQ,seval,hm,n7,n7.symm,e1,e2]
      rw [show upd (upd m b7 (some (Box.cells [.int .i64 0]))) b7 (some (.cells [.int .i64 (-1)])) = upd m b7 (some (.cells [.int .i64 (baseD h cs x)])) by rw [upd_upd,e3]]
      rotate_left
      all_goals
        clear e1 e2 e3
        generalize baseD h cs x = B at *
        refine ACall.pure hnx ?_
        simp(maxSteps:=9^9)only[↓VX,VQ,seval]
        refine arange rfl (f := 85) (first := []) (caps := [.eptr [.int .i64 x.w,.int .i64 x.done,.int .i64 x.at_[0]!,.int .i64 x.at_[1]!,.int .i64 x.at_[2]!],.eptr [.ptr hb 0]]) (by simp(maxSteps:=9^9)only[↓VX,VQ,seval]) ?_
        intro l hl
        have hl7 : l ≠ b7 := by rintro rfl; simp [upd] at hl
        have hl0 : m l = none := by simpa [upd,hl7] using hl
        obtain ⟨nl,kl⟩ := hmk l hl0
        generalize hR : LoopA.mk _ _ _ _ _ = R
        have hbk : hb ≠ km := fun e => by rw [e,hk] at hm0; cases hm0
        obtain ⟨J,hJ⟩ : ∃ J : List (Int × Stand) → Mem → Prop,∀ pre m1,J pre m1 ↔ OverJ h ws cs km B b7 l R L x m pre m1 := ⟨_,fun _ _ => Iff.rfl⟩
        refine ACall.mono (hnx1 l J (fun _ => False) (fun pre m1 hJ1 => ((hJ _ _).1 hJ1).s hb _ hbk hm) ?_ _ ?_) ?_
        · intro pre y m1 hy hJ1
          have hy := mem_of_pre hy
          obtain ⟨j1,j2,⟨L',j4,j5,j6⟩,j7⟩ := (hJ _ _).1 hJ1
          have j3 := j7 hb _ hbk hm
          refine ayield (E := envC (modeAt [8,12] [7]) true []) (envCOk _ _ _) rfl j1 (by rw [← hR]; rfl) (by rw [← hR]; rfl) (by rw [← hR]; rfl) (by rw [← hR]; rfl) ?_
          rw [← hR]
          have hyx := stok_next hd hx hy
          have hlt := (left_nxt hx.w hy).1
          have hih := ih y.2 hyx (by omega) L'
          have hbn := bestN_snoc h ws cs B pre y
          have hless : ∀ b n,lessD b n = if 0 ≤ n ∧ (b < 0 ∨ n < b) then n else b := fun _ _ => rfl
          rw [hless] at hbn
          generalize overD h ws cs y.2 = V at *
          generalize bestN h ws cs B pre = b at *
          have hfin : ∀ m2 : Mem,m2 l = some (.loop .ready none R) → m2 b7 = some (.cells [.int .i64 (if 0 ≤ V ∧ (b < 0 ∨ V < b) then V else b)]) → (∃ L2,(∀ l ∈ L2,l.at_.length = 3) ∧ (∀ y' ∈ L2,y' ∈ L' ∨ leftD h y' ≤ leftD h y.2) ∧ m2 km = some (.map (knownS h ws cs L2))) → (∀ k z,m k = some z → k ≠ km → m2 k = some z) → J (pre ++ [y]) m2 := fun m2 w1 w2 w3 w4 => by
            obtain ⟨L2,v1,v2,v3⟩ := w3
            refine (hJ _ _).2 ⟨w1,by rw [hbn]; exact w2,⟨L2,v1,fun y' hy' => ?_,v3⟩,⟨fun k z hk hz => w4 k z hz hk⟩⟩
            rcases v2 y' hy' with q | q
            · exact j5 y' q
            · exact .inr (by omega)
          simp(maxSteps:=9^9)only[↓VX,VQ,seval,j1]
          repeat'(first|intro _|apply And.intro)
          all_goals try first|omega|(simp only[LL];omega)|exact nlC (by decide) _|exact nbC rfl
          refine ACall.told (hih _ j4 (by rw [upd_ne _ _ nl.symm]; exact j3) (by rw [upd_ne _ _ kl.symm]; exact j6)) ?_
          rintro r m2 ⟨rfl,hL2,kk⟩
          have g1 := kk l _ kl (upd_same _ _ _)
          have g7 := kk b7 _ k7 (by rw [upd_ne _ _ hl7.symm]; exact j2)
          have gm : ∀ k z,m k = some z → k ≠ km → m2 k = some z ∧ k ≠ l ∧ k ≠ b7 := fun k z hz hk => by
            have a1 : k ≠ l := ne_of_some hz hl0
            exact ⟨kk k _ hk (by rw [upd_ne _ _ a1]; exact j7 k z hk hz),a1,ne_of_some hz hb7⟩
          simp(maxSteps:=9^9)only[↓VX,VQ,seval,g1,g7,hl7,hl7.symm]
          obtain ⟨L2,w1,w2,w3⟩ := hL2
          repeat'(first|intro _|apply And.intro)
          all_goals
            refine .inl (hfin _ (upd_same _ _ _) ?_ ⟨L2,w1,w2,by simp [upd,kl.symm,k7.symm]; exact w3⟩ ?_)
            · first
              | (rw [upd_ne _ _ hl7.symm,if_pos (by omega)]; exact upd_same _ _ _)
              | (rw [upd_ne _ _ hl7.symm,if_neg (by omega)]; exact g7)
            · intro k z hz hk
              obtain ⟨a1,a2,a3⟩ := gm k z hz hk
              simp [upd,a2,a3]; exact a1
        · exact (hJ _ _).2 ⟨upd_same _ _ _,by simp [upd,hl7.symm,bestN],⟨L,hL,fun y hy => .inl hy,by simp [upd,kl.symm,k7.symm]; exact hk⟩,⟨fun k z _ hz => by
            have a1 := ne_of_some hz hl0
            have a2 := ne_of_some hz hb7
            simp [upd,a1,a2]; exact hz⟩⟩
        · rintro r m' (hJ1 | hF)
          · obtain ⟨j1,j2,⟨L',j4,j5,j6⟩,j7⟩ := (hJ _ _).1 hJ1
            have j3 := j7 hb _ hbk hm
            have hnin : x ∉ L' := fun q => (j5 x q).elim hin (Nat.lt_irrefl _)
            have hfind2 := knownS_find h ws cs hx3 L' j4
            have hadd := knownS_add h ws cs L' x
            rw [if_neg hnin] at hfind2
            have hov : bestN h ws cs B (nxtD h ws cs x) = overD h ws cs x := hover.symm
            rw [hov] at j2
            simp only [standA,standL] at hfind2 hadd
            simp(maxSteps:=9^9)only[↓VX,VQ,seval,j1,hl7,hl7.symm,nl,nl.symm,j2,j3]
            (refine adraw (by first | exact envOk _ | exact envCOk _ _ _) mixed [⟨false,false,0⟩,⟨false,false,0⟩,⟨false,false,0⟩,⟨false,false,0⟩,⟨false,false,0⟩,⟨false,false,0⟩,⟨false,false,0⟩] (by kernel_rfl) ?_; show vcOpsD _ _ _ (_ :: _) _ _)
            simp(maxSteps:=9^9)only[↓VX,VQ,seval,j1,hl7,hl7.symm,nl,nl.symm,kl,kl.symm,n7,n7.symm,k7,k7.symm,j2,j3,j6,hbk,hbk.symm]
            refine ⟨hfind2,?_⟩
            rw [hadd]
            refine ⟨upd (upd m' l none) km (some (.map (knownS h ws cs (L' ++ [x])))),fun k z hz => hz,⟨L' ++ [x],fun y hy => ?_,fun y hy => ?_,upd_same _ _ _⟩,⟨fun k z hk' hz => ?_⟩⟩
            · rcases List.mem_append.1 hy with q | q
              · exact j4 y q
              · rw [List.mem_singleton.1 q]; exact hx3
            · rcases List.mem_append.1 hy with q | q
              · exact (j5 y q).imp id Nat.le_of_lt
              · rw [List.mem_singleton.1 q]; exact .inr (Nat.le_refl _)
            · rw [upd_ne _ _ hk',upd_ne _ _ (ne_of_some hz hl0)]; exact j7 k z hk' hz
          · exact hF.elim
structure GrowM (m : Mem) (ab cap : Nat) (A : List Int) : Prop where
  le : A.length ≤ cap
  lm : cap ≤ maxLen
  box : cap = 0 ∨ ∃ tail : List AV,m ab = some (.cells (((A.map (AV.int .i64)).map AV.cells).flatten ++ tail)) ∧ tail.length = cap - A.length
structure FindM (h : RHall) (ws cs km hb b2 b3 b4 b5 : Nat) (o : Int) (ab cap : Nat) (A : List Int) (m : Mem) : Prop where
  hh : m hb = some (.cells (hallC h ws cs km))
  k : ∃ L : List Stand,(∀ l ∈ L,l.at_.length = 3) ∧ m km = some (.map (knownS h ws cs L))
  p2 : m b2 = some (.cells [.ptr hb 0])
  p3 : m b3 = some (.cells [.int .i64 o])
  p4 : m b4 = some (.cells [.mslice ab 0 A.length cap])
  p5 : m b5 = some (.cells [.fn (.func 46) [] [.eptr (hallL h),.ptr b2 0,.ptr b3 0,.ptr b4 0,.ptr b5 0]])
  g : GrowM m ab cap A
  na : cap ≠ 0 → ab ≠ hb ∧ ab ≠ km ∧ ab ≠ b2 ∧ ab ≠ b3 ∧ ab ≠ b4 ∧ ab ≠ b5
theorem FindM.more {h : RHall} {ws cs km hb b2 b3 b4 b5 : Nat} {o : Int} {ab cap : Nat} {A : List Int} {m m' : Mem} (f : FindM h ws cs km hb b2 b3 b4 b5 o ab cap A m) (hk : ∀ k z,m k = some z → k ≠ km → m' k = some z)
    (hL : ∃ L : List Stand,(∀ l ∈ L,l.at_.length = 3) ∧ m' km = some (.map (knownS h ws cs L))) : FindM h ws cs km hb b2 b3 b4 b5 o ab cap A m' := by
  obtain ⟨L,_,hkm⟩ := f.k
  have ne : ∀ {k : Nat} {l : List AV},m k = some (.cells l) → k ≠ km := fun e q => by rw [q,hkm] at e; cases e
  refine ⟨hk _ _ f.hh (ne f.hh),hL,hk _ _ f.p2 (ne f.p2),hk _ _ f.p3 (ne f.p3),hk _ _ f.p4 (ne f.p4),hk _ _ f.p5 (ne f.p5),⟨f.g.le,f.g.lm,?_⟩,f.na⟩
  rcases f.g.box with e | ⟨tail,e1,e2⟩
  · exact .inl e
  · exact .inr ⟨tail,hk _ _ e1 (ne e1),e2⟩
theorem FindM.put {h : RHall} {ws cs km hb b2 b3 b4 b5 : Nat} {o : Int} {ab cap : Nat} {A : List Int} {m : Mem} (f : FindM h ws cs km hb b2 b3 b4 b5 o ab cap A m) {j : Nat} (hj : m j = none ∨ (j ≠ km ∧ j ≠ hb ∧ j ≠ b2 ∧ j ≠ b3 ∧ j ≠ b4 ∧ j ≠ b5 ∧ (cap ≠ 0 → j ≠ ab))) (x : Option Box) :
    FindM h ws cs km hb b2 b3 b4 b5 o ab cap A (upd m j x) := by
  have ne : ∀ {k : Nat} {l : Box},m k = some l → (k = km ∨ k = hb ∨ k = b2 ∨ k = b3 ∨ k = b4 ∨ k = b5 ∨ (cap ≠ 0 ∧ k = ab)) → upd m j x k = some l := fun {k l} e q => by
    have : k ≠ j := by
      rintro rfl
      rcases hj with hj | hj
      · rw [hj] at e; cases e
      · obtain ⟨a1,a2,a3,a4,a5,a6,a7⟩ := hj
        rcases q with q | q | q | q | q | q | ⟨q,q2⟩
        · exact a1 q
        · exact a2 q
        · exact a3 q
        · exact a4 q
        · exact a5 q
        · exact a6 q
        · exact a7 q q2
    rw [upd_ne _ _ this]; exact e
  obtain ⟨L,l1,l2⟩ := f.k
  refine ⟨ne f.hh (.inr (.inl rfl)),⟨L,l1,ne l2 (.inl rfl)⟩,ne f.p2 (by simp),ne f.p3 (by simp),ne f.p4 (by simp),ne f.p5 (by simp),⟨f.g.le,f.g.lm,?_⟩,f.na⟩
  by_cases q : cap = 0
  · exact .inl q
  · rcases f.g.box with e | ⟨tail,e1,e2⟩
    · exact .inl e
    · exact .inr ⟨tail,ne e1 (by simp [q]),e2⟩
theorem FindM.putL {h : RHall} {ws cs km hb b2 b3 b4 b5 : Nat} {o : Int} {ab cap : Nat} {A : List Int} {m : Mem} (f : FindM h ws cs km hb b2 b3 b4 b5 o ab cap A m) {j : Nat} {s : LoopState} {q : Option Code} {r : LoopA} (hj : m j = some (.loop s q r)) (x : Option Box) :
    FindM h ws cs km hb b2 b3 b4 b5 o ab cap A (upd m j x) := by
  obtain ⟨L,l1,l2⟩ := f.k
  have ne : ∀ {k : Nat} {l : List AV},m k = some (.cells l) → j ≠ k := fun {k l} e q => by rw [q,e] at hj; cases hj
  refine f.put (.inr ⟨fun q => ?_,ne f.hh,ne f.p2,ne f.p3,ne f.p4,ne f.p5,fun q => ?_⟩) x
  · rw [q,l2] at hj; cases hj
  · rcases f.g.box with e | ⟨tail,e1,_⟩
    · exact absurd e q
    · exact ne e1
theorem FindM.putB {h : RHall} {ws cs km hb b2 b3 b4 b5 : Nat} {o : Int} {ab cap : Nat} {A : List Int} {m : Mem} (f : FindM h ws cs km hb b2 b3 b4 b5 o ab cap A m) {j : Nat} {b : Bool} (hj : m j = some (.cells [.bool b])) (hA : A ≠ []) (x : Option Box) :
    FindM h ws cs km hb b2 b3 b4 b5 o ab cap A (upd m j x) := by
  obtain ⟨L,l1,l2⟩ := f.k
  have ne : ∀ {k : Nat} {y : AV} {l : List AV},m k = some (.cells (y :: l)) → y ≠ .bool b → j ≠ k := fun {k y l} e hy q => by
    rw [q,e] at hj
    injection hj with hj
    injection hj with hj
    injection hj with hj
    exact hy hj
  refine f.put (.inr ⟨fun q => ?_,ne f.hh (by simp),ne f.p2 (by simp),ne f.p3 (by simp),ne f.p4 (by simp),ne f.p5 (by simp),fun q => ?_⟩) x
  · rw [q,l2] at hj; cases hj
  · rcases f.g.box with e | ⟨tail,e1,_⟩
    · exact absurd e q
    · cases A with
      | nil => exact absurd rfl hA
      | cons a A => exact ne e1 (by simp)
theorem FindM.grow {h : RHall} {ws cs km hb b2 b3 b4 b5 : Nat} {o : Int} {ab cap : Nat} {A : List Int} {m : Mem} (f : FindM h ws cs km hb b2 b3 b4 b5 o ab cap A m) (n4 : b4 ≠ hb ∧ b4 ≠ km ∧ b4 ≠ b2 ∧ b4 ≠ b3 ∧ b4 ≠ b5) {ab1 cap1 : Nat} (hab : (cap ≠ 0 ∧ ab1 = ab) ∨ m ab1 = none)
    (c : Int) (tail : List AV) (ht : tail.length = cap1 - (A.length + 1)) (hc : A.length + 1 ≤ cap1) (hcm : cap1 ≤ maxLen) : FindM h ws cs km hb b2 b3 b4 b5 o ab1 cap1 (A ++ [c]) (upd (upd m ab1 (some (.cells ((((A ++ [c]).map (AV.int .i64)).map AV.cells).flatten ++ tail)))) b4 (some (.cells [.mslice ab1 0 (A.length + 1) cap1]))) := by
  obtain ⟨L,l1,l2⟩ := f.k
  have na : ab1 ≠ hb ∧ ab1 ≠ km ∧ ab1 ≠ b2 ∧ ab1 ≠ b3 ∧ ab1 ≠ b4 ∧ ab1 ≠ b5 := by
    rcases hab with ⟨q,rfl⟩ | q
    · exact f.na q
    · have ne : ∀ {k : Nat} {z : Box},m k = some z → ab1 ≠ k := fun e e2 => by rw [e2,e] at q; cases q
      exact ⟨ne f.hh,ne l2,ne f.p2,ne f.p3,ne f.p4,ne f.p5⟩
  obtain ⟨a1,a2,a3,a4,a5,a6⟩ := na
  obtain ⟨c1,c2,c3,c4,c5⟩ := n4
  have nn : ∀ {k : Nat} {z : Box} (x y : Option Box),ab1 ≠ k → b4 ≠ k → m k = some z → upd (upd m ab1 x) b4 y k = some z := fun x y q1 q2 e => by rw [upd_ne _ _ q2.symm,upd_ne _ _ q1.symm]; exact e
  refine ⟨nn _ _ a1 c1 f.hh,⟨L,l1,nn _ _ a2 c2 l2⟩,nn _ _ a3 c3 f.p2,nn _ _ a4 c4 f.p3,?_,nn _ _ a6 c5 f.p5,⟨?_,hcm,.inr ⟨tail,?_,?_⟩⟩,fun _ => ⟨a1,a2,a3,a4,a5,a6⟩⟩
  · rw [upd_same,List.length_append]; rfl
  · rw [List.length_append]; exact hc
  · rw [upd_ne _ _ a5,upd_same]
  · rw [List.length_append]; exact ht
theorem find_first {α : Type} {p : α → Bool} {pre l : List α} {y : α} (h : pre ++ [y] <+: l) (hn : ∀ z ∈ pre,p z = false) (hy : p y = true) : l.find? p = some y := by
  obtain ⟨t,rfl⟩ := h
  rw [List.append_assoc,List.find?_append]
  rw [List.find?_eq_none.2 (fun z hz => by rw [hn z hz]; decide)]
  simp [hy]
theorem over_find (h : RHall) (hd : DOk h) (ws cs km hb b2 b3 b4 b5 : Nat) (hws : ws < 8) (hcs : cs < 32) {o : Int} {ab cap : Nat} {A : List Int} {m : Mem} (f : FindM h ws cs km hb b2 b3 b4 b5 o ab cap A m) {y : Stand} (hy : StOk h y) :
    ACall Tryz.prog 45 [.ptr hb 0,standA y] m fun r m' => r = .int .i64 (overD h ws cs y) ∧ FindM h ws cs km hb b2 b3 b4 b5 o ab cap A m' ∧ Keeps (fun k => k = km) m m' := by
  obtain ⟨L,l1,l2⟩ := f.k
  refine (dover_c h hd ws cs km hb hws hcs (leftD h y + 1) y hy (Nat.lt_succ_self _) L m l1 f.hh l2).mono ?_
  rintro r m' ⟨h1,⟨L',k1,_,k2⟩,h3⟩
  exact ⟨h1,f.more (fun k z e hk => h3 k z hk e) ⟨L',k1,k2⟩,h3⟩
structure FindJ (h : RHall) (ws cs km hb b2 b3 b4 b5 : Nat) (o : Int) (ab cap : Nat) (A : List Int) (b7 l : Nat) (R : LoopA) (m : Mem) (pre : List (Int × Stand)) (m1 : Mem) : Prop where
  l : m1 l = some (.loop .ready none R)
  b : m1 b7 = some (.cells [.bool false])
  f : FindM h ws cs km hb b2 b3 b4 b5 o ab cap A m1
  s : Keeps (fun k => k = km) m m1
  n : ∀ y ∈ pre,overD h ws cs y.2 ≠ o
structure FindF (h : RHall) (ws cs km hb b2 b3 b4 b5 : Nat) (o : Int) (ab cap : Nat) (A' : List Int) (b7 l : Nat) (R : LoopA) (m : Mem) (m1 : Mem) : Prop where
  l : m1 l = some (.loop .done (some .ret) R)
  b : ∃ b,m1 b7 = some (.cells [.bool b])
  f : ∃ ab' cap',FindM h ws cs km hb b2 b3 b4 b5 o ab' cap' A' m1
  s : Keeps (fun k => k = km ∨ k = b4 ∨ (cap ≠ 0 ∧ k = ab)) m m1
theorem find_c (h : RHall) (hd : DOk h) (ws cs km hb b2 b3 b4 b5 : Nat) (hws : ws < 8) (hcs : cs < 32) (o : Int) (n4 : b4 ≠ hb ∧ b4 ≠ km ∧ b4 ≠ b2 ∧ b4 ≠ b3 ∧ b4 ≠ b5) : ∀ (n : Nat) (x : Stand),StOk h x → leftD h x < n →
    ∀ (A : List Int) (ab cap : Nat) (m : Mem),A.length + n ≤ 1000 → FindM h ws cs km hb b2 b3 b4 b5 o ab cap A m →
    ACall Tryz.prog 46 [standA x,.eptr (hallL h),.ptr b2 0,.ptr b3 0,.ptr b4 0,.ptr b5 0] m fun r m' => (∃ b,r = .bool b) ∧ (∃ ab' cap',FindM h ws cs km hb b2 b3 b4 b5 o ab' cap' (A ++ findF h ws cs o n x) m') ∧ Keeps (fun k => k = km ∨ k = b4 ∨ (cap ≠ 0 ∧ k = ab)) m m'
  | 0,x,_,hf,_,_,_,_,_,_ => absurd hf (Nat.not_lt_zero _)
  | n + 1,x,hx,hf,A,ab,cap,m,hA,hm => by
    have ih := find_c h hd ws cs km hb b2 b3 b4 b5 hws hcs o n4 n
    have hx3 := hx.n
    have hxd := hx.done
    have hn := hd.n
    have eF : findF h ws cs o (n + 1) x = if x.w = h.wri.length then [] else match (nxtD h ws cs x).find? (fun y => decide (overD h ws cs y.2 = o)) with
      | some y => y.1 :: findF h ws cs o n y.2
      | none => [] := rfl
    have hnx := dnext_c x hb
    have hm2 := hm.p2
    have hmh := hm.hh
    have p2 := hm.p2
    have p3 := hm.p3
    have p4 := hm.p4
    have p5 := hm.p5
    have hmk : ∀ b,m b = none → b ≠ hb ∧ b ≠ b2 ∧ b ≠ b3 ∧ b ≠ b4 ∧ b ≠ b5 := fun b e => ⟨(by rintro rfl; rw [hmh] at e; cases e),(by rintro rfl; rw [p2] at e; cases e),(by rintro rfl; rw [p3] at e; cases e),(by rintro rfl; rw [p4] at e; cases e),(by rintro rfl; rw [p5] at e; cases e)⟩
    generalize hFn : findF h ws cs o (n + 1) x = FN at *
    simp only [hallC,hallL,standA,standL,List.cons_append,List.nil_append] at hmh hnx ⊢
    by_cases hwe : x.w = h.wri.length
    · have e0 : ((x.w : Int) = (h.wri.length : Int)) = True := by simp; omega
      rw [if_pos hwe] at eF
      subst eF
      (refine acall_intro (E := envC (modeAt [9] [7]) false [7]) (envCOk _ _ _) rfl Tryz.func46 rfl Tryz.call46 (by kernel_rfl) (by simp [Tryz.ntmps46]) ?_; simp only [Tryz.f46];  simp(maxSteps:=9^9)only[↓VX,VQ,seval,e0])
      intro b7 hb7
      obtain ⟨u1,u2,u3,u4,u5⟩ := hmk b7 hb7
      have hm7 := fun x => hm.put (.inl hb7) x
      repeat'(first|intro _|apply And.intro)
      all_goals try first|omega|(simp only[LL];omega)|exact nlC (by decide) _|exact nbC rfl
      (refine adraw (by first | exact envOk _ | exact envCOk _ _ _) mixed [⟨false,false,0⟩,⟨false,false,0⟩,⟨false,false,0⟩,⟨false,false,0⟩,⟨false,false,0⟩,⟨false,false,0⟩,⟨false,false,0⟩,⟨false,false,0⟩] (by kernel_rfl) ?_; show vcOpsD _ _ _ (_ :: _) _ _)
      simp(maxSteps:=9^9)only[↓VX,VQ,seval,p2,hmh,u1,u1.symm,u2,u2.symm,u3,u3.symm,u4,u4.symm,u5,u5.symm]
      refine ⟨⟨_,rfl⟩,⟨ab,cap,?_⟩,⟨fun k z _ e => ?_⟩⟩
      · rw [upd_upd]; exact hm7 _
      · rw [upd_upd,upd_ne _ _ (by rintro rfl; rw [hb7] at e; cases e)]; exact e
    · have e0 : ((x.w : Int) = (h.wri.length : Int)) = False := by simp; omega
      rw [if_neg hwe] at eF
      (refine acall_intro (E := envC (modeAt [9] [7]) false [7]) (envCOk _ _ _) rfl Tryz.func46 rfl Tryz.call46 (by kernel_rfl) (by simp [Tryz.ntmps46]) ?_; simp only [Tryz.f46];  simp(maxSteps:=9^9)only[↓VX,VQ,seval,e0])
      intro b7 hb7
      obtain ⟨u1,u2,u3,u4,u5⟩ := hmk b7 hb7
      have hm7 := fun x => hm.put (.inl hb7) x
      simp(maxSteps:=9^9)only[↓VX,VQ,seval,p2,u1,u1.symm,u2,u2.symm,u3,u3.symm,u4,u4.symm,u5,u5.symm]
      repeat'(first|intro _|apply And.intro)
      all_goals try first|omega|(simp only[LL];omega)|exact nlC (by decide) _|exact nbC rfl
      refine ACall.pure hnx ?_
      simp(maxSteps:=9^9)only[↓VX,VQ,seval]
      refine arange rfl (f := 85) (first := []) (caps := [.eptr [.int .i64 x.w,.int .i64 x.done,.int .i64 x.at_[0]!,.int .i64 x.at_[1]!,.int .i64 x.at_[2]!],.eptr [.ptr hb 0]]) (by simp(maxSteps:=9^9)only[↓VX,VQ,seval]) ?_
      intro l hl
      have hl7 : l ≠ b7 := by rintro rfl; simp [upd] at hl
      have hl0 : m l = none := by simpa [upd,hl7] using hl
      generalize hR : LoopA.mk _ _ _ _ _ = R
      obtain ⟨J,hJ⟩ : ∃ J : List (Int × Stand) → Mem → Prop,∀ pre m1,J pre m1 ↔ FindJ h ws cs km hb b2 b3 b4 b5 o ab cap A b7 l R m pre m1 := ⟨_,fun _ _ => Iff.rfl⟩
      obtain ⟨F,hF⟩ : ∃ F : Mem → Prop,∀ m1,F m1 ↔ FindF h ws cs km hb b2 b3 b4 b5 o ab cap (A ++ FN) b7 l R m m1 := ⟨_,fun _ => Iff.rfl⟩
      have hnx1 := dnext1_c h hd ws cs km hb hws hcs x hx l (J := J) (F := F) (fun pre m1 hJ1 => ((hJ _ _).1 hJ1).f.hh)
      refine ACall.mono (hnx1 ?_ _ ?_) ?_
      · intro pre y m1 hpre hJ1
        have hJ2 := (hJ _ _).1 hJ1
        have jl := hJ2.l
        have jb := hJ2.b
        have hyx := stok_next hd hx (mem_of_pre hpre)
        have hlt := (left_nxt hx.w (mem_of_pre hpre)).1
        have q2 := hJ2.f.p2
        have q3 := hJ2.f.p3
        have q4 := hJ2.f.p4
        have q5 := hJ2.f.p5
        have n2 : b2 ≠ l := fun e => by rw [e,jl] at q2; cases q2
        have n3 : b3 ≠ l := fun e => by rw [e,jl] at q3; cases q3
        have hov := over_find h hd ws cs km hb b2 b3 b4 b5 hws hcs (hJ2.f.putL jl (some (.loop .busy none R))) hyx
        refine ayield (E := envC (modeAt [9] [7]) true [7]) (envCOk _ _ _) rfl jl (by rw [← hR]; rfl) (by rw [← hR]; rfl) (by rw [← hR]; rfl) (by rw [← hR]; rfl) ?_
        rw [← hR]
        simp only [standA,standL] at hov ⊢
        simp(maxSteps:=9^9)only[↓VX,VQ,seval,jl]
        refine adrawT (by first | exact envOk _ | exact envCOk _ _ _ | exact envNOk _ _ _) mixed (.alt 0 (.alt 1 (.alt 2 (.alt 3 (.alt 4 .done .none) .none) (.alt 3 (.alt 2 (.alt 4 .done .none) .none) .none)) (.alt 3 (.alt 1 (.alt 2 (.alt 4 .done .none) .none) .none) .none)) (.alt 1 (.alt 0 (.alt 2 (.alt 3 (.alt 4 .done .none) .none) (.alt 3 (.alt 2 (.alt 4 .done .none) .none) .none)) (.alt 3 (.alt 0 (.alt 2 (.alt 4 .done .none) .none) .none) .none)) (.alt 3 (.alt 0 (.alt 1 (.alt 2 (.alt 4 .done .none) .none) .none) (.alt 1 (.alt 0 (.alt 2 (.alt 4 .done .none) .none) .none) .none)) .none))) (by kernel_rfl) (fun m2 : Mem => ⟨[(2,.v (.ptr b2 0)),(3,.v (.ptr b3 0)),(4,.v (.ptr b4 0)),(5,.v (.ptr b5 0)),(7,.v (.ptr b7 0)),(8,.v (.int .i64 y.1)),(9,.loc 9 0),(32,.v (.bool (decide (¬ overD h ws cs y.2 = o))))],[],[(9,[.int .i64 y.2.w,.int .i64 y.2.done,.int .i64 y.2.at_[0]!,.int .i64 y.2.at_[1]!,.int .i64 y.2.at_[2]!])],m2⟩)
          (fun m2 => FindM h ws cs km hb b2 b3 b4 b5 o ab cap A m2 ∧ Keeps (fun k => k = km) (upd m1 l (some (.loop .busy none R))) m2) (fun _ => rfl) ?_ ?_
        · simp(maxSteps:=9^9)only[↓VX,VQ,seval,vcT,n2,n3,q2,q3,List.getElem?_cons_zero,List.getElem?_cons_succ]
          repeat' apply And.intro
          all_goals
            refine ACall.told hov ?_
            rintro r m2 ⟨rfl,f2,k2⟩
            have z3 := f2.p3
            simp(maxSteps:=9^9)only[↓VX,VQ,seval,vcT,z3,List.getElem?_cons_zero,List.getElem?_cons_succ]
            exact ⟨m2,⟨f2,k2⟩,by (simp only [FE,↓FP,seval]); (repeat' first | rfl | apply And.intro)⟩
        rintro m2 ⟨f2,k2⟩
        have g1 : m2 l = some (.loop .busy none R) := k2 l _ (by rintro rfl; obtain ⟨L,_,e⟩ := hJ2.f.k; rw [jl] at e; cases e) (upd_same _ _ _)
        have g7 : m2 b7 = some (.cells [.bool false]) := k2 b7 _ (by rintro rfl; obtain ⟨L,_,e⟩ := hJ2.f.k; rw [jb] at e; cases e) (by rw [upd_ne _ _ hl7.symm]; exact jb)
        have gs : Keeps (fun k => k = km) m m2 := ⟨fun k z hk hz => k2 k z hk (by rw [upd_ne _ _ (by rintro rfl; rw [hl0] at hz; cases hz)]; exact hJ2.s k z hk hz)⟩
        by_cases ho : overD h ws cs y.2 = o
        · have hFN : FN = y.1 :: findF h ws cs o n y.2 := by
            rw [eF,find_first hpre (fun z hz => decide_eq_false (hJ2.n z hz)) (decide_eq_true ho)]
          have z4 := f2.p4
          have hgl := f2.g.le
          have hgm := f2.g.lm
          have hgb := f2.g.box
          simp(maxSteps:=9^9)only[↓VX,VQ,seval,decide_not,ho,decide_true,decide_false]
          refine acut_at_k 3 (envCOk _ _ _) (V := vcAppG _) (fun h hd _ _ _ hi hf hs _ _ _ hn => vcAppG_sound (envCOk _ _ _) h hd hi hf hs hn) rfl rfl (fun s : Nat × Nat × Mem => ⟨[(2,.v (.ptr b2 0)),(3,.v (.ptr b3 0)),(4,.v (.ptr b4 0)),(5,.v (.ptr b5 0)),(7,.v (.ptr b7 0)),(9,.loc 9 0)],[],[(9,[.int .i64 y.2.w,.int .i64 y.2.done,.int .i64 y.2.at_[0]!,.int .i64 y.2.at_[1]!,.int .i64 y.2.at_[2]!])],s.2.2⟩)
            (fun s => FindM h ws cs km hb b2 b3 b4 b5 o s.1 s.2.1 (A ++ [y.1]) s.2.2 ∧ Keeps (fun k => k = b4 ∨ (cap ≠ 0 ∧ k = ab)) m2 s.2.2 ∧ ((cap ≠ 0 ∧ s.1 = ab) ∨ m2 s.1 = none)) (fun _ => rfl) ?_ ?_
          · show vcOps _ _ (_ :: _) _ _
            simp(maxSteps:=9^9)only[↓VX,VQ,seval,List.take_succ_cons,List.take_zero,vcAppG,vcAppE,z4]
            obtain ⟨tail,t1,t2⟩ : ∃ tail : List AV,((cap = 0 ∧ A.map (AV.int .i64) = [] ∧ tail = []) ∨ m2 ab = some (.cells (((A.map (AV.int .i64)).map AV.cells).flatten ++ tail))) ∧ tail.length = cap - A.length := by
              rcases hgb with e | ⟨tail,e1,e2⟩
              · have : A = [] := List.eq_nil_of_length_eq_zero (by omega)
                subst this
                exact ⟨[],.inl ⟨e,rfl,rfl⟩,by simp [e]⟩
              · exact ⟨tail,.inr e1,e2⟩
            refine ⟨A.map (AV.int .i64),tail,t1,⟨by rw [List.length_map],hgl,hgm,t2,fun x hx => ?_,by rw [List.length_map]; omega⟩,?_,?_⟩
            · obtain ⟨q,_,rfl⟩ := List.mem_map.1 hx
              exact ⟨rfl,rfl⟩
            · rw [List.length_map]
              intro q
              have hne := f2.na (by omega)
              simp(maxSteps:=9^9)only[↓VX,VQ,seval,hne.2.2.2.2.1.symm,z4]
              have hfm := f2.grow n4 (.inl ⟨by omega,rfl⟩) y.1 (tail.drop 1) (by rw [List.length_drop,t2]; omega) q hgm
              obtain ⟨M,hM⟩ : ∃ M : Mem,M = upd (upd m2 ab (some (.cells ((((A ++ [y.1]).map (AV.int .i64)).map AV.cells).flatten ++ tail.drop 1)))) b4 (some (.cells [.mslice ab 0 (A.length + 1) cap])) := ⟨_,rfl⟩
              rw [← hM] at hfm
              refine ⟨(ab,cap,M),⟨hfm,⟨fun k z hk hz => ?_⟩,.inl ⟨by omega,rfl⟩⟩,?_⟩
              · show M k = some z
                rw [hM,upd_ne _ _ (fun e => hk (.inl e)),upd_ne _ _ (fun e => hk (.inr ⟨by omega,e⟩))]; exact hz
              · (simp only [FE,↓FP,seval])
                rw [hM,show (A ++ [y.1]).map (AV.int .i64) = A.map (AV.int .i64) ++ [AV.int .i64 y.1] by rw [List.map_append]; rfl]
            · rw [List.length_map]
              intro q b' cap' tail' q1 q2 q3 q4
              have hne : b4 ≠ b' := by rintro rfl; rw [z4] at q1; cases q1
              simp(maxSteps:=9^9)only[↓VX,VQ,seval,hne,z4]
              have hfm := f2.grow n4 (.inr q1) y.1 tail' q4 q2 q3
              obtain ⟨M,hM⟩ : ∃ M : Mem,M = upd (upd m2 b' (some (.cells ((((A ++ [y.1]).map (AV.int .i64)).map AV.cells).flatten ++ tail')))) b4 (some (.cells [.mslice b' 0 (A.length + 1) cap'])) := ⟨_,rfl⟩
              rw [← hM] at hfm
              refine ⟨(b',cap',M),⟨hfm,⟨fun k z hk hz => ?_⟩,.inr q1⟩,?_⟩
              · show M k = some z
                rw [hM,upd_ne _ _ (fun e => hk (.inl e)),upd_ne _ _ (by rintro rfl; rw [q1] at hz; cases hz)]; exact hz
              · (simp only [FE,↓FP,seval])
                rw [hM,show (A ++ [y.1]).map (AV.int .i64) = A.map (AV.int .i64) ++ [AV.int .i64 y.1] by rw [List.map_append]; rfl]
          rintro ⟨ab1,cap1,m3⟩ ⟨f3,k3,hab⟩
          dsimp only at f3 k3 hab
          have w5 := f3.p5
          have hsub3 : ∀ k z,m2 k = some z → k ≠ b4 → (cap ≠ 0 → k ≠ ab) → m3 k = some z := fun k z e h1 h2 => k3 k z (fun q => q.elim h1 fun q => h2 q.1 q.2) e
          have hnab : ∀ k z,m2 k = some z → (∀ l,z ≠ .cells l) → cap ≠ 0 → k ≠ ab := fun k z e hz hc q => by
            rcases hgb with e0 | ⟨tail,e1,_⟩
            · exact hc e0
            · rw [q,e1] at e; injection e with e; exact hz _ e.symm
          have h31 : m3 l = some (.loop .busy none R) := hsub3 l _ g1 (by rintro rfl; rw [z4] at g1; cases g1) (hnab l _ g1 (by simp))
          have h37 : m3 b7 = some (.cells [.bool false]) := hsub3 b7 _ g7 u4 (fun hc q => by
            rcases hm.g.box with e0 | ⟨tail,e1,_⟩
            · exact hc e0
            · rw [← q,hb7] at e1; cases e1)
          have hfi := ih y.2 hyx (by omega) (A ++ [y.1]) ab1 cap1 m3 (by rw [List.length_append,List.length_singleton]; omega) f3
          simp only [standA,standL,hallL] at hfi w5
          simp(maxSteps:=9^9)only[↓VX,VQ,seval,w5]
          refine ACall.told hfi ?_
          rintro r m4 ⟨⟨b,rfl⟩,⟨ab2,cap2,f4⟩,k4⟩
          have hkab : ∀ k z,m2 k = some z → (cap ≠ 0 → k ≠ ab) → k ≠ km → k ≠ b4 → m4 k = some z := fun k z e h1 h2 h3 => k4 k z (by
            rintro (q | q | ⟨q1,q2⟩)
            · exact h2 q
            · exact h3 q
            · rcases hab with ⟨c1,c2⟩ | c1
              · exact h1 c1 (q2.trans c2)
              · rw [← q2,e] at c1; cases c1) (hsub3 k z e h3 h1)
          have h41 : m4 l = some (.loop .busy none R) := hkab l _ g1 (hnab l _ g1 (by simp)) (by rintro rfl; obtain ⟨L,_,e⟩ := f2.k; rw [g1] at e; cases e) (by rintro rfl; rw [z4] at g1; cases g1)
          have h47 : m4 b7 = some (.cells [.bool false]) := hkab b7 _ g7 (fun hc q => by
            rcases hm.g.box with e0 | ⟨tail,e1,_⟩
            · exact hc e0
            · rw [← q,hb7] at e1; cases e1) (by rintro rfl; obtain ⟨L,_,e⟩ := f2.k; rw [g7] at e; cases e) u4
          simp(maxSteps:=9^9)only[↓VX,VQ,seval,h41,h47,hl7,hl7.symm]
          have hne : A ++ [y.1] ++ findF h ws cs o n y.2 ≠ [] := by simp
          have f5 := f4.putB h47 hne (some (.cells [.bool b]))
          have f6 := f5.putL (by rw [upd_ne _ _ hl7]; exact h41) (some (.loop .done (some .ret) R))
          rw [List.append_assoc,show [y.1] ++ findF h ws cs o n y.2 = FN by rw [hFN]; rfl] at f6
          refine .inr ((hF _).2 ⟨upd_same _ _ _,⟨b,by rw [upd_ne _ _ hl7.symm,upd_same]⟩,⟨ab2,cap2,f6⟩,⟨fun k z hk hz => ?_⟩⟩)
          have q1 : k ≠ l := by rintro rfl; rw [hl0] at hz; cases hz
          have q2 : k ≠ b7 := by rintro rfl; rw [hb7] at hz; cases hz
          rw [upd_ne _ _ q1,upd_ne _ _ q2]
          exact hkab k z (gs k z (fun q => hk (.inl q)) hz) (fun hc q => hk (.inr (.inr ⟨hc,q⟩))) (fun q => hk (.inl q)) (fun q => hk (.inr (.inl q)))
        · simp(maxSteps:=9^9)only[↓VX,VQ,seval,decide_not,ho,decide_true,decide_false,g1]
          refine .inl ((hJ _ _).2 ⟨upd_same _ _ _,by rw [upd_ne _ _ hl7.symm]; exact g7,f2.putL g1 _,⟨fun k z hk hz => ?_⟩,fun z hz => ?_⟩)
          · rw [upd_ne _ _ (by rintro rfl; rw [hl0] at hz; cases hz)]; exact gs k z hk hz
          · rcases List.mem_append.1 hz with q | q
            · exact hJ2.n z q
            · rw [List.mem_singleton.1 q]; exact ho
      · exact (hJ _ _).2 ⟨upd_same _ _ _,by rw [upd_ne _ _ hl7.symm]; exact upd_same _ _ _,(hm7 _).put (.inl hl) _,⟨fun k z _ hz => by
          show upd (upd m b7 (some (.cells [.bool false]))) l _ k = some z
          rw [upd_ne _ _ (by rintro rfl; rw [hl0] at hz; cases hz),upd_ne _ _ (by rintro rfl; rw [hb7] at hz; cases hz)]; exact hz⟩,fun z hz => by cases hz⟩
      · rintro r m' (hJ1 | hF1)
        · have hJ2 := (hJ _ _).1 hJ1
          have jl := hJ2.l
          have jb := hJ2.b
          have hFN : FN = [] := by
            rw [eF]
            have : (nxtD h ws cs x).find? (fun y => decide (overD h ws cs y.2 = o)) = none := List.find?_eq_none.2 fun z hz => by rw [decide_eq_false (hJ2.n z hz)]; decide
            rw [this]
          subst hFN
          rw [List.append_nil]
          simp(maxSteps:=9^9)only[↓VX,VQ,seval,jl,jb,hl7,hl7.symm]
          have hkb : b7 ≠ km := by rintro rfl; obtain ⟨L,_,e⟩ := hJ2.f.k; rw [jb] at e; cases e
          have hab : cap ≠ 0 → b7 ≠ ab := fun hc q => by
            rcases hm.g.box with e0 | ⟨tail,e1,_⟩
            · exact hc e0
            · rw [← q,hb7] at e1; cases e1
          refine ⟨⟨_,rfl⟩,⟨ab,cap,(hJ2.f.putL jl none).put (.inr ⟨hkb,u1,u2,u3,u4,u5,hab⟩) _⟩,⟨fun k z hk hz => ?_⟩⟩
          rw [upd_ne _ _ (by rintro rfl; rw [hb7] at hz; cases hz),upd_ne _ _ (by rintro rfl; rw [hl0] at hz; cases hz)]
          exact hJ2.s k z (fun q => hk (.inl q)) hz
        · have hF2 := (hF _).1 hF1
          have jl := hF2.l
          obtain ⟨b,jb⟩ := hF2.b
          obtain ⟨ab2,cap2,f2⟩ := hF2.f
          simp(maxSteps:=9^9)only[↓VX,VQ,seval,jl,jb,hl7,hl7.symm]
          refine ⟨⟨_,rfl⟩,⟨ab2,cap2,f2.putL jl none⟩,⟨fun k z hk hz => ?_⟩⟩
          rw [upd_ne _ _ (by rintro rfl; rw [hl0] at hz; cases hz)]
          exact hF2.s k z hk hz
end Go.Proofs.YteppmjlfpniiaaaGreat.Abs
