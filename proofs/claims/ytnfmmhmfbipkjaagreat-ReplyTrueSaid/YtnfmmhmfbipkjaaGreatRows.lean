/-
  No cell of these rows narrows 'for every input' (looked for: loops, veiled, ifaces, maps, wideKeys, modest, calm, conditions, laid).
  DERIVED. THE GIVEN ROWS OF THIS SEAT. 12 by the template 'for every input the law returns true; each argument reads behind the call as it read before'; 0 by the template 'total and deterministic' (their statements: YtnfmmhmfbipkjaaGreatTotals.lean).
  GIVEN WITH THE SEED: the statements are not yours to turn. If you find one false, say at which input.
  Laid BY PROGRAM, IN A SANDBOX (cutbox-rows.mjs): the forced cells as the released guide's own fill.sh prints them over the translation fdefeb9704899514… (all of the seat's roots in one cut). By AI agents, Wed Nov 11 2026. No macro, syntax, notation, axiom, sorry.
-/
import Derived.Test.YtnfmmhmfbipkjaaGreatChecked
import GoSem.Claim
import GoSem.ClaimJoined
import GoSem.ClaimMapViews
import Derived.JoinedTies
import Derived.KernelRfl
namespace Go.Proofs.YtnfmmhmfbipkjaaGreat
/- THE CELL 'sum', in the pinned program and in every row, IS THE sha256 OF THE DUMP (.gsa) THAT YtnfmmhmfbipkjaaGreatProg.lean LOADS. Nothing in Lean hashes anything: it is a label: what it is worth is what the hold of that sum in a sandbox is worth. -/
noncomputable def Tryz.pinned : Pinned := { name := "ytnfmmhmfbipkjaagreat", sum := "fdefeb9704899514308b7c724b77d885a6433e38641ba00b966bc0f114946408", checked := Tryz.checked }
namespace Rows
def none {H : Type} : Left H := { results := [], args := [] }

/-- 'escribanolaw06.ReplyCoulds': WHATEVER THE INPUT: true; the input reads as it did. -/
def replyCouldsSpec : ChangeSpec := { name := "replyCoulds", fn := fun _ => fun
  | [d1, d2] => { results := [.lit (.bool true)], args := [d1, d2] }
  | _ => none }
def replyCouldsRow : OpenClaim := { program := "ytnfmmhmfbipkjaagreat", sum := "fdefeb9704899514308b7c724b77d885a6433e38641ba00b966bc0f114946408", func := "escribano/escribanolaw06.ReplyCoulds", spec := "replyCoulds", unfollowed := true, recurses := true, plainKeys := false, apart := false }
def ReplyCouldsSaid : Prop := replyCouldsRow.holds Tryz.pinned (OpenSpec.ofChange replyCouldsSpec)

/-- ITS FALSE NEIGHBOUR: 'it returns false'. Refute it at one input. -/
def replyCouldsWrong : ChangeSpec := { name := "replyCoulds", fn := fun _ => fun
  | [d1, d2] => { results := [.lit (.bool false)], args := [d1, d2] }
  | _ => none }
def ReplyCouldsWrongFalsely : Prop := replyCouldsRow.holds Tryz.pinned (OpenSpec.ofChange replyCouldsWrong)

/-- 'escribanolaw06.ReplyFirsts': WHATEVER THE INPUT: true; the input reads as it did. -/
def replyFirstsSpec : ChangeSpec := { name := "replyFirsts", fn := fun _ => fun
  | [d1, d2] => { results := [.lit (.bool true)], args := [d1, d2] }
  | _ => none }
def replyFirstsRow : OpenClaim := { program := "ytnfmmhmfbipkjaagreat", sum := "fdefeb9704899514308b7c724b77d885a6433e38641ba00b966bc0f114946408", func := "escribano/escribanolaw06.ReplyFirsts", spec := "replyFirsts", unfollowed := true, recurses := true, plainKeys := false, apart := false }
def ReplyFirstsSaid : Prop := replyFirstsRow.holds Tryz.pinned (OpenSpec.ofChange replyFirstsSpec)

/-- ITS FALSE NEIGHBOUR: 'it returns false'. Refute it at one input. -/
def replyFirstsWrong : ChangeSpec := { name := "replyFirsts", fn := fun _ => fun
  | [d1, d2] => { results := [.lit (.bool false)], args := [d1, d2] }
  | _ => none }
def ReplyFirstsWrongFalsely : Prop := replyFirstsRow.holds Tryz.pinned (OpenSpec.ofChange replyFirstsWrong)

/-- 'escribanolaw06.ReplyWaits': WHATEVER THE INPUT: true; the input reads as it did. -/
def replyWaitsSpec : ChangeSpec := { name := "replyWaits", fn := fun _ => fun
  | [d1, d2] => { results := [.lit (.bool true)], args := [d1, d2] }
  | _ => none }
def replyWaitsRow : OpenClaim := { program := "ytnfmmhmfbipkjaagreat", sum := "fdefeb9704899514308b7c724b77d885a6433e38641ba00b966bc0f114946408", func := "escribano/escribanolaw06.ReplyWaits", spec := "replyWaits", unfollowed := true, recurses := true, plainKeys := false, apart := false }
def ReplyWaitsSaid : Prop := replyWaitsRow.holds Tryz.pinned (OpenSpec.ofChange replyWaitsSpec)

/-- ITS FALSE NEIGHBOUR: 'it returns false'. Refute it at one input. -/
def replyWaitsWrong : ChangeSpec := { name := "replyWaits", fn := fun _ => fun
  | [d1, d2] => { results := [.lit (.bool false)], args := [d1, d2] }
  | _ => none }
def ReplyWaitsWrongFalsely : Prop := replyWaitsRow.holds Tryz.pinned (OpenSpec.ofChange replyWaitsWrong)

/-- 'escribanolaw06.ReplyWords': WHATEVER THE INPUT: true; the input reads as it did. -/
def replyWordsSpec : ChangeSpec := { name := "replyWords", fn := fun _ => fun
  | [d1, d2] => { results := [.lit (.bool true)], args := [d1, d2] }
  | _ => none }
def replyWordsRow : OpenClaim := { program := "ytnfmmhmfbipkjaagreat", sum := "fdefeb9704899514308b7c724b77d885a6433e38641ba00b966bc0f114946408", func := "escribano/escribanolaw06.ReplyWords", spec := "replyWords", unfollowed := true, recurses := true, plainKeys := false, apart := false }
def ReplyWordsSaid : Prop := replyWordsRow.holds Tryz.pinned (OpenSpec.ofChange replyWordsSpec)

/-- ITS FALSE NEIGHBOUR: 'it returns false'. Refute it at one input. -/
def replyWordsWrong : ChangeSpec := { name := "replyWords", fn := fun _ => fun
  | [d1, d2] => { results := [.lit (.bool false)], args := [d1, d2] }
  | _ => none }
def ReplyWordsWrongFalsely : Prop := replyWordsRow.holds Tryz.pinned (OpenSpec.ofChange replyWordsWrong)

/-- 'escribanolaw06.ReplyTrue': WHATEVER THE INPUT: true; the input reads as it did. -/
def replyTrueSpec : ChangeSpec := { name := "replyTrue", fn := fun _ => fun
  | [d1, d2] => { results := [.lit (.bool true)], args := [d1, d2] }
  | _ => none }
def replyTrueRow : OpenClaim := { program := "ytnfmmhmfbipkjaagreat", sum := "fdefeb9704899514308b7c724b77d885a6433e38641ba00b966bc0f114946408", func := "escribano/escribanolaw06.ReplyTrue", spec := "replyTrue", unfollowed := true, recurses := true, plainKeys := false, apart := false }
def ReplyTrueSaid : Prop := replyTrueRow.holds Tryz.pinned (OpenSpec.ofChange replyTrueSpec)

/-- ITS FALSE NEIGHBOUR: 'it returns false'. Refute it at one input. -/
def replyTrueWrong : ChangeSpec := { name := "replyTrue", fn := fun _ => fun
  | [d1, d2] => { results := [.lit (.bool false)], args := [d1, d2] }
  | _ => none }
def ReplyTrueWrongFalsely : Prop := replyTrueRow.holds Tryz.pinned (OpenSpec.ofChange replyTrueWrong)

/-- 'escribanolaw06.ReplyFewest': WHATEVER THE INPUT: true; the input reads as it did. -/
def replyFewestSpec : ChangeSpec := { name := "replyFewest", fn := fun _ => fun
  | [d1, d2] => { results := [.lit (.bool true)], args := [d1, d2] }
  | _ => none }
def replyFewestRow : OpenClaim := { program := "ytnfmmhmfbipkjaagreat", sum := "fdefeb9704899514308b7c724b77d885a6433e38641ba00b966bc0f114946408", func := "escribano/escribanolaw06.ReplyFewest", spec := "replyFewest", unfollowed := true, recurses := true, plainKeys := false, apart := false }
def ReplyFewestSaid : Prop := replyFewestRow.holds Tryz.pinned (OpenSpec.ofChange replyFewestSpec)

/-- ITS FALSE NEIGHBOUR: 'it returns false'. Refute it at one input. -/
def replyFewestWrong : ChangeSpec := { name := "replyFewest", fn := fun _ => fun
  | [d1, d2] => { results := [.lit (.bool false)], args := [d1, d2] }
  | _ => none }
def ReplyFewestWrongFalsely : Prop := replyFewestRow.holds Tryz.pinned (OpenSpec.ofChange replyFewestWrong)

/-- 'escribanolaw06.ReplyOnce': WHATEVER THE INPUT: true; the input reads as it did. -/
def replyOnceSpec : ChangeSpec := { name := "replyOnce", fn := fun _ => fun
  | [d1, d2] => { results := [.lit (.bool true)], args := [d1, d2] }
  | _ => none }
def replyOnceRow : OpenClaim := { program := "ytnfmmhmfbipkjaagreat", sum := "fdefeb9704899514308b7c724b77d885a6433e38641ba00b966bc0f114946408", func := "escribano/escribanolaw06.ReplyOnce", spec := "replyOnce", unfollowed := true, recurses := true, plainKeys := false, apart := false }
def ReplyOnceSaid : Prop := replyOnceRow.holds Tryz.pinned (OpenSpec.ofChange replyOnceSpec)

/-- ITS FALSE NEIGHBOUR: 'it returns false'. Refute it at one input. -/
def replyOnceWrong : ChangeSpec := { name := "replyOnce", fn := fun _ => fun
  | [d1, d2] => { results := [.lit (.bool false)], args := [d1, d2] }
  | _ => none }
def ReplyOnceWrongFalsely : Prop := replyOnceRow.holds Tryz.pinned (OpenSpec.ofChange replyOnceWrong)

/-- 'escribanolaw06.ReplyMore': WHATEVER THE INPUT: true; the input reads as it did. -/
def replyMoreSpec : ChangeSpec := { name := "replyMore", fn := fun _ => fun
  | [d1, d2] => { results := [.lit (.bool true)], args := [d1, d2] }
  | _ => none }
def replyMoreRow : OpenClaim := { program := "ytnfmmhmfbipkjaagreat", sum := "fdefeb9704899514308b7c724b77d885a6433e38641ba00b966bc0f114946408", func := "escribano/escribanolaw06.ReplyMore", spec := "replyMore", unfollowed := true, recurses := true, plainKeys := false, apart := false }
def ReplyMoreSaid : Prop := replyMoreRow.holds Tryz.pinned (OpenSpec.ofChange replyMoreSpec)

/-- ITS FALSE NEIGHBOUR: 'it returns false'. Refute it at one input. -/
def replyMoreWrong : ChangeSpec := { name := "replyMore", fn := fun _ => fun
  | [d1, d2] => { results := [.lit (.bool false)], args := [d1, d2] }
  | _ => none }
def ReplyMoreWrongFalsely : Prop := replyMoreRow.holds Tryz.pinned (OpenSpec.ofChange replyMoreWrong)

/-- 'escribanolaw06.ReplyWord': WHATEVER THE INPUT: true; the input reads as it did. -/
def replyWordSpec : ChangeSpec := { name := "replyWord", fn := fun _ => fun
  | [d1, d2] => { results := [.lit (.bool true)], args := [d1, d2] }
  | _ => none }
def replyWordRow : OpenClaim := { program := "ytnfmmhmfbipkjaagreat", sum := "fdefeb9704899514308b7c724b77d885a6433e38641ba00b966bc0f114946408", func := "escribano/escribanolaw06.ReplyWord", spec := "replyWord", unfollowed := true, recurses := true, plainKeys := false, apart := false }
def ReplyWordSaid : Prop := replyWordRow.holds Tryz.pinned (OpenSpec.ofChange replyWordSpec)

/-- ITS FALSE NEIGHBOUR: 'it returns false'. Refute it at one input. -/
def replyWordWrong : ChangeSpec := { name := "replyWord", fn := fun _ => fun
  | [d1, d2] => { results := [.lit (.bool false)], args := [d1, d2] }
  | _ => none }
def ReplyWordWrongFalsely : Prop := replyWordRow.holds Tryz.pinned (OpenSpec.ofChange replyWordWrong)

/-- 'escribanolaw06.ReplySooner': WHATEVER THE INPUT: true; the input reads as it did. -/
def replySoonerSpec : ChangeSpec := { name := "replySooner", fn := fun _ => fun
  | [d1, d2, d3] => { results := [.lit (.bool true)], args := [d1, d2, d3] }
  | _ => none }
def replySoonerRow : OpenClaim := { program := "ytnfmmhmfbipkjaagreat", sum := "fdefeb9704899514308b7c724b77d885a6433e38641ba00b966bc0f114946408", func := "escribano/escribanolaw06.ReplySooner", spec := "replySooner", unfollowed := true, recurses := true, plainKeys := false, apart := false }
def ReplySoonerSaid : Prop := replySoonerRow.holds Tryz.pinned (OpenSpec.ofChange replySoonerSpec)

/-- ITS FALSE NEIGHBOUR: 'it returns false'. Refute it at one input. -/
def replySoonerWrong : ChangeSpec := { name := "replySooner", fn := fun _ => fun
  | [d1, d2, d3] => { results := [.lit (.bool false)], args := [d1, d2, d3] }
  | _ => none }
def ReplySoonerWrongFalsely : Prop := replySoonerRow.holds Tryz.pinned (OpenSpec.ofChange replySoonerWrong)

/-- 'escribanolaw06.ReplyOrder': WHATEVER THE INPUT: true; the input reads as it did. -/
def replyOrderSpec : ChangeSpec := { name := "replyOrder", fn := fun _ => fun
  | [d] => { results := [.lit (.bool true)], args := [d] }
  | _ => none }
def replyOrderRow : OpenClaim := { program := "ytnfmmhmfbipkjaagreat", sum := "fdefeb9704899514308b7c724b77d885a6433e38641ba00b966bc0f114946408", func := "escribano/escribanolaw06.ReplyOrder", spec := "replyOrder", unfollowed := true, recurses := true, plainKeys := false, apart := false }
def ReplyOrderSaid : Prop := replyOrderRow.holds Tryz.pinned (OpenSpec.ofChange replyOrderSpec)

/-- ITS FALSE NEIGHBOUR: 'it returns false'. Refute it at one input. -/
def replyOrderWrong : ChangeSpec := { name := "replyOrder", fn := fun _ => fun
  | [d] => { results := [.lit (.bool false)], args := [d] }
  | _ => none }
def ReplyOrderWrongFalsely : Prop := replyOrderRow.holds Tryz.pinned (OpenSpec.ofChange replyOrderWrong)

/-- 'escribanolaw06.ReplyHeard': WHATEVER THE INPUT: true; the input reads as it did. -/
def replyHeardSpec : ChangeSpec := { name := "replyHeard", fn := fun _ => fun
  | [d1, d2, d3] => { results := [.lit (.bool true)], args := [d1, d2, d3] }
  | _ => none }
def replyHeardRow : OpenClaim := { program := "ytnfmmhmfbipkjaagreat", sum := "fdefeb9704899514308b7c724b77d885a6433e38641ba00b966bc0f114946408", func := "escribano/escribanolaw06.ReplyHeard", spec := "replyHeard", unfollowed := true, recurses := true, plainKeys := false, apart := false }
def ReplyHeardSaid : Prop := replyHeardRow.holds Tryz.pinned (OpenSpec.ofChange replyHeardSpec)

/-- ITS FALSE NEIGHBOUR: 'it returns false'. Refute it at one input. -/
def replyHeardWrong : ChangeSpec := { name := "replyHeard", fn := fun _ => fun
  | [d1, d2, d3] => { results := [.lit (.bool false)], args := [d1, d2, d3] }
  | _ => none }
def ReplyHeardWrongFalsely : Prop := replyHeardRow.holds Tryz.pinned (OpenSpec.ofChange replyHeardWrong)

/- THE SECOND FORM. 'bulk': how many values and letters a reading holds, each counted each time it is reached (what is shared counts as often as it is met; a slice's spare places count too). A statement '..UptoSaid' is the law's where the arguments, and the package variables that the reading takes, are together of bulk at most 1048576: NARROWER than '..Said'. Prove '..Said' where nothing that the law and all that it calls make is longer than what came in: it says more and counts as full. Else prove '..UptoSaid'. A law counts once. -/
mutual
def uptoBulk {H : Type} : DataW H → Nat
  | .lit (.string bytes) => bytes.length + 1
  | .lit _ => 1
  | .nil => 1
  | .ptr d => uptoBulk d + 1
  | .slice elems spare => uptoBulkAll elems + uptoBulkAll spare + 1
  | .agg parts => uptoBulkAll parts + 1
  | .iface _ d => uptoBulk d + 1
  | .map entries => uptoBulkEntries entries + 1
  | .held _ => 1
def uptoBulkAll {H : Type} : List (DataW H) → Nat
  | [] => 0
  | d :: r => uptoBulk d + uptoBulkAll r
def uptoBulkEntries {H : Type} : List (Lit × DataW H) → Nat
  | [] => 0
  | x :: r => uptoBulkEntry x + uptoBulkEntries r
def uptoBulkEntry {H : Type} : Lit × DataW H → Nat
  | (.string bytes, d) => bytes.length + uptoBulk d + 1
  | (_, d) => uptoBulk d + 1
 end
def uptoSmall : (H : Type) → List (DataW H) → Bool := fun _ ds => decide (uptoBulkAll ds ≤ 1048576)
def OpenSpec.upto (s : _root_.Go.ChangeSpec) : _root_.Go.OpenSpec := { _root_.Go.OpenSpec.ofChange s with cond := some uptoSmall }

/-- 'escribanolaw06.ReplyCoulds', WHERE WHAT IT READS IS OF BULK AT MOST 1048576: true; the input reads as it did. -/
def replyCouldsUptoRow : OpenClaim := { program := "ytnfmmhmfbipkjaagreat", sum := "fdefeb9704899514308b7c724b77d885a6433e38641ba00b966bc0f114946408", func := "escribano/escribanolaw06.ReplyCoulds", spec := "replyCoulds", unfollowed := true, recurses := true, plainKeys := false, apart := false, narrowed := true }
def ReplyCouldsUptoSaid : Prop := replyCouldsUptoRow.holds Tryz.pinned (OpenSpec.upto replyCouldsSpec)

/-- 'escribanolaw06.ReplyFirsts', WHERE WHAT IT READS IS OF BULK AT MOST 1048576: true; the input reads as it did. -/
def replyFirstsUptoRow : OpenClaim := { program := "ytnfmmhmfbipkjaagreat", sum := "fdefeb9704899514308b7c724b77d885a6433e38641ba00b966bc0f114946408", func := "escribano/escribanolaw06.ReplyFirsts", spec := "replyFirsts", unfollowed := true, recurses := true, plainKeys := false, apart := false, narrowed := true }
def ReplyFirstsUptoSaid : Prop := replyFirstsUptoRow.holds Tryz.pinned (OpenSpec.upto replyFirstsSpec)

/-- 'escribanolaw06.ReplyWaits', WHERE WHAT IT READS IS OF BULK AT MOST 1048576: true; the input reads as it did. -/
def replyWaitsUptoRow : OpenClaim := { program := "ytnfmmhmfbipkjaagreat", sum := "fdefeb9704899514308b7c724b77d885a6433e38641ba00b966bc0f114946408", func := "escribano/escribanolaw06.ReplyWaits", spec := "replyWaits", unfollowed := true, recurses := true, plainKeys := false, apart := false, narrowed := true }
def ReplyWaitsUptoSaid : Prop := replyWaitsUptoRow.holds Tryz.pinned (OpenSpec.upto replyWaitsSpec)

/-- 'escribanolaw06.ReplyWords', WHERE WHAT IT READS IS OF BULK AT MOST 1048576: true; the input reads as it did. -/
def replyWordsUptoRow : OpenClaim := { program := "ytnfmmhmfbipkjaagreat", sum := "fdefeb9704899514308b7c724b77d885a6433e38641ba00b966bc0f114946408", func := "escribano/escribanolaw06.ReplyWords", spec := "replyWords", unfollowed := true, recurses := true, plainKeys := false, apart := false, narrowed := true }
def ReplyWordsUptoSaid : Prop := replyWordsUptoRow.holds Tryz.pinned (OpenSpec.upto replyWordsSpec)

/-- 'escribanolaw06.ReplyTrue', WHERE WHAT IT READS IS OF BULK AT MOST 1048576: true; the input reads as it did. -/
def replyTrueUptoRow : OpenClaim := { program := "ytnfmmhmfbipkjaagreat", sum := "fdefeb9704899514308b7c724b77d885a6433e38641ba00b966bc0f114946408", func := "escribano/escribanolaw06.ReplyTrue", spec := "replyTrue", unfollowed := true, recurses := true, plainKeys := false, apart := false, narrowed := true }
def ReplyTrueUptoSaid : Prop := replyTrueUptoRow.holds Tryz.pinned (OpenSpec.upto replyTrueSpec)

/-- 'escribanolaw06.ReplyFewest', WHERE WHAT IT READS IS OF BULK AT MOST 1048576: true; the input reads as it did. -/
def replyFewestUptoRow : OpenClaim := { program := "ytnfmmhmfbipkjaagreat", sum := "fdefeb9704899514308b7c724b77d885a6433e38641ba00b966bc0f114946408", func := "escribano/escribanolaw06.ReplyFewest", spec := "replyFewest", unfollowed := true, recurses := true, plainKeys := false, apart := false, narrowed := true }
def ReplyFewestUptoSaid : Prop := replyFewestUptoRow.holds Tryz.pinned (OpenSpec.upto replyFewestSpec)

/-- 'escribanolaw06.ReplyOnce', WHERE WHAT IT READS IS OF BULK AT MOST 1048576: true; the input reads as it did. -/
def replyOnceUptoRow : OpenClaim := { program := "ytnfmmhmfbipkjaagreat", sum := "fdefeb9704899514308b7c724b77d885a6433e38641ba00b966bc0f114946408", func := "escribano/escribanolaw06.ReplyOnce", spec := "replyOnce", unfollowed := true, recurses := true, plainKeys := false, apart := false, narrowed := true }
def ReplyOnceUptoSaid : Prop := replyOnceUptoRow.holds Tryz.pinned (OpenSpec.upto replyOnceSpec)

/-- 'escribanolaw06.ReplyMore', WHERE WHAT IT READS IS OF BULK AT MOST 1048576: true; the input reads as it did. -/
def replyMoreUptoRow : OpenClaim := { program := "ytnfmmhmfbipkjaagreat", sum := "fdefeb9704899514308b7c724b77d885a6433e38641ba00b966bc0f114946408", func := "escribano/escribanolaw06.ReplyMore", spec := "replyMore", unfollowed := true, recurses := true, plainKeys := false, apart := false, narrowed := true }
def ReplyMoreUptoSaid : Prop := replyMoreUptoRow.holds Tryz.pinned (OpenSpec.upto replyMoreSpec)

/-- 'escribanolaw06.ReplyWord', WHERE WHAT IT READS IS OF BULK AT MOST 1048576: true; the input reads as it did. -/
def replyWordUptoRow : OpenClaim := { program := "ytnfmmhmfbipkjaagreat", sum := "fdefeb9704899514308b7c724b77d885a6433e38641ba00b966bc0f114946408", func := "escribano/escribanolaw06.ReplyWord", spec := "replyWord", unfollowed := true, recurses := true, plainKeys := false, apart := false, narrowed := true }
def ReplyWordUptoSaid : Prop := replyWordUptoRow.holds Tryz.pinned (OpenSpec.upto replyWordSpec)

/-- 'escribanolaw06.ReplySooner', WHERE WHAT IT READS IS OF BULK AT MOST 1048576: true; the input reads as it did. -/
def replySoonerUptoRow : OpenClaim := { program := "ytnfmmhmfbipkjaagreat", sum := "fdefeb9704899514308b7c724b77d885a6433e38641ba00b966bc0f114946408", func := "escribano/escribanolaw06.ReplySooner", spec := "replySooner", unfollowed := true, recurses := true, plainKeys := false, apart := false, narrowed := true }
def ReplySoonerUptoSaid : Prop := replySoonerUptoRow.holds Tryz.pinned (OpenSpec.upto replySoonerSpec)

/-- 'escribanolaw06.ReplyOrder', WHERE WHAT IT READS IS OF BULK AT MOST 1048576: true; the input reads as it did. -/
def replyOrderUptoRow : OpenClaim := { program := "ytnfmmhmfbipkjaagreat", sum := "fdefeb9704899514308b7c724b77d885a6433e38641ba00b966bc0f114946408", func := "escribano/escribanolaw06.ReplyOrder", spec := "replyOrder", unfollowed := true, recurses := true, plainKeys := false, apart := false, narrowed := true }
def ReplyOrderUptoSaid : Prop := replyOrderUptoRow.holds Tryz.pinned (OpenSpec.upto replyOrderSpec)

/-- 'escribanolaw06.ReplyHeard', WHERE WHAT IT READS IS OF BULK AT MOST 1048576: true; the input reads as it did. -/
def replyHeardUptoRow : OpenClaim := { program := "ytnfmmhmfbipkjaagreat", sum := "fdefeb9704899514308b7c724b77d885a6433e38641ba00b966bc0f114946408", func := "escribano/escribanolaw06.ReplyHeard", spec := "replyHeard", unfollowed := true, recurses := true, plainKeys := false, apart := false, narrowed := true }
def ReplyHeardUptoSaid : Prop := replyHeardUptoRow.holds Tryz.pinned (OpenSpec.upto replyHeardSpec)

end Rows
end Go.Proofs.YtnfmmhmfbipkjaaGreat
