/- The statement ReplyWords: for any book and answer the law returns true. Conditions: none. -/
import Derived.Test.YtnfmmhmfbipkjaaGreatW13
import Derived.Test.YtnfmmhmfbipkjaaGreatW9
import Derived.Test.YtnfmmhmfbipkjaaGreatW10
import Derived.Test.YtnfmmhmfbipkjaaGreatW14
namespace Go.Proofs.YtnfmmhmfbipkjaaGreat.Abs
set_option linter.unusedSimpArgs false
set_option maxHeartbeats 4000000
set_option maxRecDepth 100000
open Go Go.RowKit Go.Proofs

theorem replyCoulds_c (b : RBook) (hf : hnamesFit b.harb) (x : Int) : PCall Tryz.prog 3 [bookA b, .int .i64 x] (.bool true) := by
 intro m
 have a1 := rcheck_c b hf
 have a2 := refcheckB_c b hf
 have a3 := could_top b hf x
 have a4 := refcould06_c b hf x
 have i1 := intsT_c (couldR b x).1
 have aw := awake_c
 generalize checkB b = C at *
 generalize couldR b x = R at *
 simp only [bookA, bookL, harbL, List.cons_append, List.nil_append, ints] at *
 (refine acall_intro (E := envC (modeAt [] []) false []) (envCOk _ _ _) rfl Tryz.func3 rfl Tryz.call3 (by kernel_rfl) (by simp [Tryz.ntmps3]) ?_; simp only [Tryz.f3];  simp (maxSteps := 4000000) only [↓VX, VQ, seval, Int.reduceEq])
 ((refine ACall.pure (a1) ?_; try simp (maxSteps := 4000000) only [↓VX, VQ, seval]); try simp (maxSteps := 4000000) only [↓VX, VQ, seval, GL])
 ((refine ACall.pure (a2) ?_; try simp (maxSteps := 4000000) only [↓VX, VQ, seval]); try simp (maxSteps := 4000000) only [↓VX, VQ, seval, GL])
 ((refine ACall.pure (a3) ?_; try simp (maxSteps := 4000000) only [↓VX, VQ, seval]); try simp (maxSteps := 4000000) only [↓VX, VQ, seval, GL])
 ((refine ACall.pure (a4) ?_; try simp (maxSteps := 4000000) only [↓VX, VQ, seval]); try simp (maxSteps := 4000000) only [↓VX, VQ, seval, GL])
 ((refine ACall.pure (i1) ?_; try simp (maxSteps := 4000000) only [↓VX, VQ, seval]); try simp (maxSteps := 4000000) only [↓VX, VQ, seval, GL])
 ((refine ACall.pure (aw) ?_; try simp (maxSteps := 4000000) only [↓VX, VQ, seval]); try simp (maxSteps := 4000000) only [↓VX, VQ, seval, GL])

theorem replyFirsts_c (b : RBook) (hf : hnamesFit b.harb) (p q : Int) : PCall Tryz.prog 4 [bookA b, .agg [.int .i64 p, .int .i64 q]] (.bool true) := by
 intro m
 have a1 := first_top b hf
 have a2 := reffirst06_c b hf
 have a3 := belongs_top b hf p q
 have a4 := refbelongs06_c b hf p q
 have i1 := intsT_c (firstR b).1
 have aw := awake_c
 generalize firstR b = C at *
 generalize belongsR b p q = R at *
 simp only [bookA, bookL, harbL, List.cons_append, List.nil_append, ints] at *
 (refine acall_intro (E := envC (modeAt [] []) false []) (envCOk _ _ _) rfl Tryz.func4 rfl Tryz.call4 (by kernel_rfl) (by simp [Tryz.ntmps4]) ?_; simp only [Tryz.f4];  simp (maxSteps := 4000000) only [↓VX, VQ, seval, Int.reduceEq])
 ((refine ACall.pure (a1) ?_; try simp (maxSteps := 4000000) only [↓VX, VQ, seval]); try simp (maxSteps := 4000000) only [↓VX, VQ, seval, GL])
 ((refine ACall.pure (a2) ?_; try simp (maxSteps := 4000000) only [↓VX, VQ, seval]); try simp (maxSteps := 4000000) only [↓VX, VQ, seval, GL])
 ((refine ACall.pure (i1) ?_; try simp (maxSteps := 4000000) only [↓VX, VQ, seval]); try simp (maxSteps := 4000000) only [↓VX, VQ, seval, GL])
 ((refine ACall.pure (a3) ?_; try simp (maxSteps := 4000000) only [↓VX, VQ, seval]); try simp (maxSteps := 4000000) only [↓VX, VQ, seval, GL])
 ((refine ACall.pure (a4) ?_; try simp (maxSteps := 4000000) only [↓VX, VQ, seval]); try simp (maxSteps := 4000000) only [↓VX, VQ, seval, GL])
 ((refine ACall.pure (aw) ?_; try simp (maxSteps := 4000000) only [↓VX, VQ, seval]); try simp (maxSteps := 4000000) only [↓VX, VQ, seval, GL])

theorem replyWaits_c (b : RBook) (hf : hnamesFit b.harb) (x : Int) : PCall Tryz.prog 5 [bookA b, .int .i64 x] (.bool true) := by
 intro m
 have a1 := strays_top b hf
 have a2 := refstrays06_c b hf
 have a3 := waits_top b hf
 have a4 := refwaits06_c b hf
 have a5 := came_top b hf x
 have a6 := refcame06_c b hf x
 have i1 := intsT_c (straysR b).1
 have i2 := intsT_c (straysR b).2.1
 have i3 := intsT_c (waitsR b).1
 have i4 := intsT_c (waitsR b).2.1
 have aw := awake_c
 have eqs := eqFlatSpan (cameR b x).1.lo (cameR b x).1.hi (cameR b x).1.lo (cameR b x).1.hi
 simp only [decide_true, Bool.and_true] at eqs
 generalize straysR b = C at *
 generalize waitsR b = W at *
 generalize cameR b x = R at *
 simp only [bookA, bookL, harbL, List.cons_append, List.nil_append, ints] at *
 (refine acall_intro (E := envC (modeAt [11, 13] []) false []) (envCOk _ _ _) rfl Tryz.func5 rfl Tryz.call5 (by kernel_rfl) (by simp [Tryz.ntmps5]) ?_; simp only [Tryz.f5];  simp (maxSteps := 4000000) only [↓VX, VQ, seval, Int.reduceEq])
 ((refine ACall.pure (a1) ?_; try simp (maxSteps := 4000000) only [↓VX, VQ, seval]); try simp (maxSteps := 4000000) only [↓VX, VQ, seval, GL])
 ((refine ACall.pure (a2) ?_; try simp (maxSteps := 4000000) only [↓VX, VQ, seval]); try simp (maxSteps := 4000000) only [↓VX, VQ, seval, GL])
 ((refine ACall.pure (i1) ?_; try simp (maxSteps := 4000000) only [↓VX, VQ, seval]); try simp (maxSteps := 4000000) only [↓VX, VQ, seval, GL])
 ((refine ACall.pure (i2) ?_; try simp (maxSteps := 4000000) only [↓VX, VQ, seval]); try simp (maxSteps := 4000000) only [↓VX, VQ, seval, GL])
 ((refine ACall.pure (a3) ?_; try simp (maxSteps := 4000000) only [↓VX, VQ, seval]); try simp (maxSteps := 4000000) only [↓VX, VQ, seval, GL])
 ((refine ACall.pure (a4) ?_; try simp (maxSteps := 4000000) only [↓VX, VQ, seval]); try simp (maxSteps := 4000000) only [↓VX, VQ, seval, GL])
 ((refine ACall.pure (i3) ?_; try simp (maxSteps := 4000000) only [↓VX, VQ, seval]); try simp (maxSteps := 4000000) only [↓VX, VQ, seval, GL])
 ((refine ACall.pure (i4) ?_; try simp (maxSteps := 4000000) only [↓VX, VQ, seval]); try simp (maxSteps := 4000000) only [↓VX, VQ, seval, GL])
 ((refine ACall.pure (a5) ?_; try simp (maxSteps := 4000000) only [↓VX, VQ, seval]); try simp (maxSteps := 4000000) only [↓VX, VQ, seval, GL])
 ((refine ACall.pure (a6) ?_; try simp (maxSteps := 4000000) only [↓VX, VQ, seval]); try simp (maxSteps := 4000000) only [↓VX, VQ, seval, GL])
 refine ⟨eqs, ?_⟩
 ((refine ACall.pure (aw) ?_; try simp (maxSteps := 4000000) only [↓VX, VQ, seval]); try simp (maxSteps := 4000000) only [↓VX, VQ, seval, GL])

theorem replyWords_c (b : RBook) (hf : hnamesFit b.harb) (x : Int) : PCall Tryz.prog 6 [bookA b, .int .i64 x] (.bool true) := by
 intro m
 have a3 := decides_top b hf x
 have a4 := refdecides06_c b hf x
 have i1 := intsT_c (decidesR b x).1
 have aw := awake_c
 generalize decidesR b x = R at *
 simp only [bookA, bookL, harbL, List.cons_append, List.nil_append, ints] at *
 (refine acall_intro (E := envC (modeAt [] []) false []) (envCOk _ _ _) rfl Tryz.func6 rfl Tryz.call6 (by kernel_rfl) (by simp [Tryz.ntmps6]) ?_; simp only [Tryz.f6];  simp (maxSteps := 4000000) only [↓VX, VQ, seval, Int.reduceEq])
 ((refine ACall.pure (a3) ?_; try simp (maxSteps := 4000000) only [↓VX, VQ, seval]); try simp (maxSteps := 4000000) only [↓VX, VQ, seval, GL])
 ((refine ACall.pure (a4) ?_; try simp (maxSteps := 4000000) only [↓VX, VQ, seval]); try simp (maxSteps := 4000000) only [↓VX, VQ, seval, GL])
 ((refine ACall.pure (i1) ?_; try simp (maxSteps := 4000000) only [↓VX, VQ, seval]); try simp (maxSteps := 4000000) only [↓VX, VQ, seval, GL])
 ((refine ACall.pure (aw) ?_; try simp (maxSteps := 4000000) only [↓VX, VQ, seval]); try simp (maxSteps := 4000000) only [↓VX, VQ, seval, GL])
end Go.Proofs.YtnfmmhmfbipkjaaGreat.Abs

namespace Go.Proofs.YtnfmmhmfbipkjaaGreat
set_option linter.unusedSimpArgs false
open Go Go.RowKit Go.Proofs Abs
set_option maxRecDepth 100000

theorem replyWords_types : LawTypes Tryz.prog Tryz.f6 [30, 3] 4 9 := by
 refine ⟨by rw [Tryz.params6], by kernel_rfl, Tryz.underlying4, laid_ok, fun t h => ?_⟩
 simp only [List.mem_cons, List.not_mem_nil, or_false] at h
 rcases h with rfl | rfl
 ·exact plain30
 ·exact plain3

theorem replyWords_all (xs : List AV) (h : GoodAll Tryz.prog [30, 3] xs) : ∃ K : AV → Mem → Prop, ACall Tryz.prog 6 xs (fun _ => .none) K ∧ ∀ r m, K r m → r = .bool true := by
 match xs, h with
 | [a0, a1], ⟨⟨l0, g0, h0⟩, ⟨l1, g1, h1⟩, _⟩ =>
  obtain ⟨b, hb, e0⟩ := open_book g0
  obtain ⟨x, e1, hx⟩ := open_int g1
  rw [h0, e0, h1, e1]
  exact ⟨_, replyWords_c b hb.names x _, fun r m h => h.1⟩

theorem replyWords_lifted (os : Os) (started : os.Started) (H : Type) (enc : TypeId × Value → H) :
  ReturnsInHanded {} Tryz.checked os 6 .any (Rows.replyWordsSpec.pre6 enc Tryz.prog Tryz.f6 Rows.replyWordsRow.domain false) (Rows.replyWordsSpec.post enc Tryz.prog Tryz.f6 false true false false) := by
 refine returnsInHanded_of_change_sized (C := Tryz.checked) own_ok started (by kernel_rfl) Tryz.func6
  (ChangeSpec.witness6 (enc := enc) (C := Tryz.checked) false ⟨#[], #[.agg #[.int .i64 0, .int .i64 0, .slice .none 0 0, .slice .none 0 0, .slice .none 0 0, .slice .none 0 0, .int .i64 0, .slice .none 0 0], .int .i64 0], []⟩ 8 (by kernel_rfl) (by kernel_rfl) (by kernel_rfl) (by kernel_rfl)) ?_
 intro W base args ds gs before hval hW _ hz _
 refine law_contract replyWords_types rfl (fun ds hds => ?_) replyWords_all W base args ds gs before hval hW hz
 match ds, hds with
 | [d0, d1], _ => rfl

theorem replyWords_holds : Rows.ReplyWordsSaid :=
 OpenClaim.holds_of_wide 6 Tryz.f6 rfl rfl rfl rfl rfl rfl rfl ⟨rfl, rfl, rfl, rfl, rfl⟩ rfl rfl rfl rfl rfl (by kernel_rfl) Tryz.func6 (by kernel_rfl)
  (of_decide_eq_true (by kernel_rfl)) (by unfold Func.isWrapper; first | (rw [if_pos (by decide +kernel)]; kernel_rfl) | (rw [if_neg (by decide +kernel)]; exact ⟨rfl, rfl⟩))
  (fun os started H enc _ => replyWords_lifted os started H enc)
end Go.Proofs.YtnfmmhmfbipkjaaGreat
