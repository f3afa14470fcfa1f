/-
  No cell of these rows narrows 'for every input' (looked for: loops, veiled, ifaces, maps, wideKeys, modest, calm, conditions, laid).
  DERIVED. THE GIVEN ROWS OF THIS SEAT. 13 by the template 'for every input the law returns true; each argument reads behind the call as it read before'; 0 by the template 'total and deterministic' (their statements: YtnfmmhmfbipkjaaTotals.lean).
  GIVEN WITH THE SEED: the statements are not yours to turn. If you find one false, say at which input.
  Laid BY PROGRAM, IN A SANDBOX (cutbox-rows.mjs): the forced cells as the released guide's own fill.sh prints them over the translation 0db1f7aa41f84f98… (all of the seat's roots in one cut). By AI agents, Wed Nov 11 2026. No macro, syntax, notation, axiom, sorry.
-/
import Derived.Test.YtnfmmhmfbipkjaaChecked
import GoSem.Claim
import GoSem.ClaimJoined
import GoSem.ClaimMapViews
import Derived.JoinedTies
import Derived.KernelRfl
namespace Go.Proofs.Ytnfmmhmfbipkjaa
/- THE CELL 'sum', in the pinned program and in every row, IS THE sha256 OF THE DUMP (.gsa) THAT YtnfmmhmfbipkjaaProg.lean LOADS. Nothing in Lean hashes anything: it is a label: what it is worth is what the hold of that sum in a sandbox is worth. -/
noncomputable def Try.pinned : Pinned := { name := "ytnfmmhmfbipkjaa", sum := "0db1f7aa41f84f98242b7c6d05a1f64d4c1a7146dd856ea74703ad0cf05f69b0", checked := Try.checked }
namespace Rows
def none {H : Type} : Left H := { results := [], args := [] }

/-- 'escribanolaw04.ShipCalls': WHATEVER THE INPUT: true; the input reads as it did. -/
def shipCallsSpec : ChangeSpec := { name := "shipCalls", fn := fun _ => fun
  | [d1, d2] => { results := [.lit (.bool true)], args := [d1, d2] }
  | _ => none }
def shipCallsRow : OpenClaim := { program := "ytnfmmhmfbipkjaa", sum := "0db1f7aa41f84f98242b7c6d05a1f64d4c1a7146dd856ea74703ad0cf05f69b0", func := "escribano/escribanolaw04.ShipCalls", spec := "shipCalls", unfollowed := true, recurses := true, plainKeys := false, apart := false }
def ShipCallsSaid : Prop := shipCallsRow.holds Try.pinned (OpenSpec.ofChange shipCallsSpec)

/-- ITS FALSE NEIGHBOUR: 'it returns false'. Refute it at one input. -/
def shipCallsWrong : ChangeSpec := { name := "shipCalls", fn := fun _ => fun
  | [d1, d2] => { results := [.lit (.bool false)], args := [d1, d2] }
  | _ => none }
def ShipCallsWrongFalsely : Prop := shipCallsRow.holds Try.pinned (OpenSpec.ofChange shipCallsWrong)

/-- 'escribanolaw04.ShipComes': WHATEVER THE INPUT: true; the input reads as it did. -/
def shipComesSpec : ChangeSpec := { name := "shipComes", fn := fun _ => fun
  | [d1, d2] => { results := [.lit (.bool true)], args := [d1, d2] }
  | _ => none }
def shipComesRow : OpenClaim := { program := "ytnfmmhmfbipkjaa", sum := "0db1f7aa41f84f98242b7c6d05a1f64d4c1a7146dd856ea74703ad0cf05f69b0", func := "escribano/escribanolaw04.ShipComes", spec := "shipComes", unfollowed := true, recurses := true, plainKeys := false, apart := false }
def ShipComesSaid : Prop := shipComesRow.holds Try.pinned (OpenSpec.ofChange shipComesSpec)

/-- ITS FALSE NEIGHBOUR: 'it returns false'. Refute it at one input. -/
def shipComesWrong : ChangeSpec := { name := "shipComes", fn := fun _ => fun
  | [d1, d2] => { results := [.lit (.bool false)], args := [d1, d2] }
  | _ => none }
def ShipComesWrongFalsely : Prop := shipComesRow.holds Try.pinned (OpenSpec.ofChange shipComesWrong)

/-- 'escribanolaw04.ShipWrongs': WHATEVER THE INPUT: true; the input reads as it did. -/
def shipWrongsSpec : ChangeSpec := { name := "shipWrongs", fn := fun _ => fun
  | [d1, d2] => { results := [.lit (.bool true)], args := [d1, d2] }
  | _ => none }
def shipWrongsRow : OpenClaim := { program := "ytnfmmhmfbipkjaa", sum := "0db1f7aa41f84f98242b7c6d05a1f64d4c1a7146dd856ea74703ad0cf05f69b0", func := "escribano/escribanolaw04.ShipWrongs", spec := "shipWrongs", unfollowed := true, recurses := true, plainKeys := false, apart := false }
def ShipWrongsSaid : Prop := shipWrongsRow.holds Try.pinned (OpenSpec.ofChange shipWrongsSpec)

/-- ITS FALSE NEIGHBOUR: 'it returns false'. Refute it at one input. -/
def shipWrongsWrong : ChangeSpec := { name := "shipWrongs", fn := fun _ => fun
  | [d1, d2] => { results := [.lit (.bool false)], args := [d1, d2] }
  | _ => none }
def ShipWrongsWrongFalsely : Prop := shipWrongsRow.holds Try.pinned (OpenSpec.ofChange shipWrongsWrong)

/-- 'escribanolaw04.ShipKnown': WHATEVER THE INPUT: true; the input reads as it did. -/
def shipKnownSpec : ChangeSpec := { name := "shipKnown", fn := fun _ => fun
  | [] => { results := [.lit (.bool true)], args := [] }
  | _ => none }
def shipKnownRow : OpenClaim := { program := "ytnfmmhmfbipkjaa", sum := "0db1f7aa41f84f98242b7c6d05a1f64d4c1a7146dd856ea74703ad0cf05f69b0", func := "escribano/escribanolaw04.ShipKnown", spec := "shipKnown", unfollowed := true, recurses := true, plainKeys := false, apart := false }
def ShipKnownSaid : Prop := shipKnownRow.holds Try.pinned (OpenSpec.ofChange shipKnownSpec)

/-- ITS FALSE NEIGHBOUR: 'it returns false'. Refute it at one input. -/
def shipKnownWrong : ChangeSpec := { name := "shipKnown", fn := fun _ => fun
  | [] => { results := [.lit (.bool false)], args := [] }
  | _ => none }
def ShipKnownWrongFalsely : Prop := shipKnownRow.holds Try.pinned (OpenSpec.ofChange shipKnownWrong)

/-- 'escribanolaw04.ShipTrue': WHATEVER THE INPUT: true; the input reads as it did. -/
def shipTrueSpec : ChangeSpec := { name := "shipTrue", fn := fun _ => fun
  | [d1, d2, d3] => { results := [.lit (.bool true)], args := [d1, d2, d3] }
  | _ => none }
def shipTrueRow : OpenClaim := { program := "ytnfmmhmfbipkjaa", sum := "0db1f7aa41f84f98242b7c6d05a1f64d4c1a7146dd856ea74703ad0cf05f69b0", func := "escribano/escribanolaw04.ShipTrue", spec := "shipTrue", unfollowed := true, recurses := true, plainKeys := false, apart := false }
def ShipTrueSaid : Prop := shipTrueRow.holds Try.pinned (OpenSpec.ofChange shipTrueSpec)

/-- ITS FALSE NEIGHBOUR: 'it returns false'. Refute it at one input. -/
def shipTrueWrong : ChangeSpec := { name := "shipTrue", fn := fun _ => fun
  | [d1, d2, d3] => { results := [.lit (.bool false)], args := [d1, d2, d3] }
  | _ => none }
def ShipTrueWrongFalsely : Prop := shipTrueRow.holds Try.pinned (OpenSpec.ofChange shipTrueWrong)

/-- 'escribanolaw04.ShipFewest': WHATEVER THE INPUT: true; the input reads as it did. -/
def shipFewestSpec : ChangeSpec := { name := "shipFewest", fn := fun _ => fun
  | [d1, d2] => { results := [.lit (.bool true)], args := [d1, d2] }
  | _ => none }
def shipFewestRow : OpenClaim := { program := "ytnfmmhmfbipkjaa", sum := "0db1f7aa41f84f98242b7c6d05a1f64d4c1a7146dd856ea74703ad0cf05f69b0", func := "escribano/escribanolaw04.ShipFewest", spec := "shipFewest", unfollowed := true, recurses := true, plainKeys := false, apart := false }
def ShipFewestSaid : Prop := shipFewestRow.holds Try.pinned (OpenSpec.ofChange shipFewestSpec)

/-- ITS FALSE NEIGHBOUR: 'it returns false'. Refute it at one input. -/
def shipFewestWrong : ChangeSpec := { name := "shipFewest", fn := fun _ => fun
  | [d1, d2] => { results := [.lit (.bool false)], args := [d1, d2] }
  | _ => none }
def ShipFewestWrongFalsely : Prop := shipFewestRow.holds Try.pinned (OpenSpec.ofChange shipFewestWrong)

/-- 'escribanolaw04.ShipMore': WHATEVER THE INPUT: true; the input reads as it did. -/
def shipMoreSpec : ChangeSpec := { name := "shipMore", fn := fun _ => fun
  | [d1, d2, d3] => { results := [.lit (.bool true)], args := [d1, d2, d3] }
  | _ => none }
def shipMoreRow : OpenClaim := { program := "ytnfmmhmfbipkjaa", sum := "0db1f7aa41f84f98242b7c6d05a1f64d4c1a7146dd856ea74703ad0cf05f69b0", func := "escribano/escribanolaw04.ShipMore", spec := "shipMore", unfollowed := true, recurses := true, plainKeys := false, apart := false }
def ShipMoreSaid : Prop := shipMoreRow.holds Try.pinned (OpenSpec.ofChange shipMoreSpec)

/-- ITS FALSE NEIGHBOUR: 'it returns false'. Refute it at one input. -/
def shipMoreWrong : ChangeSpec := { name := "shipMore", fn := fun _ => fun
  | [d1, d2, d3] => { results := [.lit (.bool false)], args := [d1, d2, d3] }
  | _ => none }
def ShipMoreWrongFalsely : Prop := shipMoreRow.holds Try.pinned (OpenSpec.ofChange shipMoreWrong)

/-- 'escribanolaw04.ShipSent': WHATEVER THE INPUT: true; the input reads as it did. -/
def shipSentSpec : ChangeSpec := { name := "shipSent", fn := fun _ => fun
  | [d1, d2, d3] => { results := [.lit (.bool true)], args := [d1, d2, d3] }
  | _ => none }
def shipSentRow : OpenClaim := { program := "ytnfmmhmfbipkjaa", sum := "0db1f7aa41f84f98242b7c6d05a1f64d4c1a7146dd856ea74703ad0cf05f69b0", func := "escribano/escribanolaw04.ShipSent", spec := "shipSent", unfollowed := true, recurses := true, plainKeys := false, apart := false }
def ShipSentSaid : Prop := shipSentRow.holds Try.pinned (OpenSpec.ofChange shipSentSpec)

/-- ITS FALSE NEIGHBOUR: 'it returns false'. Refute it at one input. -/
def shipSentWrong : ChangeSpec := { name := "shipSent", fn := fun _ => fun
  | [d1, d2, d3] => { results := [.lit (.bool false)], args := [d1, d2, d3] }
  | _ => none }
def ShipSentWrongFalsely : Prop := shipSentRow.holds Try.pinned (OpenSpec.ofChange shipSentWrong)

/-- 'escribanolaw04.ShipLater': WHATEVER THE INPUT: true; the input reads as it did. -/
def shipLaterSpec : ChangeSpec := { name := "shipLater", fn := fun _ => fun
  | [d1, d2] => { results := [.lit (.bool true)], args := [d1, d2] }
  | _ => none }
def shipLaterRow : OpenClaim := { program := "ytnfmmhmfbipkjaa", sum := "0db1f7aa41f84f98242b7c6d05a1f64d4c1a7146dd856ea74703ad0cf05f69b0", func := "escribano/escribanolaw04.ShipLater", spec := "shipLater", unfollowed := true, recurses := true, plainKeys := false, apart := false }
def ShipLaterSaid : Prop := shipLaterRow.holds Try.pinned (OpenSpec.ofChange shipLaterSpec)

/-- ITS FALSE NEIGHBOUR: 'it returns false'. Refute it at one input. -/
def shipLaterWrong : ChangeSpec := { name := "shipLater", fn := fun _ => fun
  | [d1, d2] => { results := [.lit (.bool false)], args := [d1, d2] }
  | _ => none }
def ShipLaterWrongFalsely : Prop := shipLaterRow.holds Try.pinned (OpenSpec.ofChange shipLaterWrong)

/-- 'escribanolaw04.ShipBefore': WHATEVER THE INPUT: true; the input reads as it did. -/
def shipBeforeSpec : ChangeSpec := { name := "shipBefore", fn := fun _ => fun
  | [d1, d2] => { results := [.lit (.bool true)], args := [d1, d2] }
  | _ => none }
def shipBeforeRow : OpenClaim := { program := "ytnfmmhmfbipkjaa", sum := "0db1f7aa41f84f98242b7c6d05a1f64d4c1a7146dd856ea74703ad0cf05f69b0", func := "escribano/escribanolaw04.ShipBefore", spec := "shipBefore", unfollowed := true, recurses := true, plainKeys := false, apart := false }
def ShipBeforeSaid : Prop := shipBeforeRow.holds Try.pinned (OpenSpec.ofChange shipBeforeSpec)

/-- ITS FALSE NEIGHBOUR: 'it returns false'. Refute it at one input. -/
def shipBeforeWrong : ChangeSpec := { name := "shipBefore", fn := fun _ => fun
  | [d1, d2] => { results := [.lit (.bool false)], args := [d1, d2] }
  | _ => none }
def ShipBeforeWrongFalsely : Prop := shipBeforeRow.holds Try.pinned (OpenSpec.ofChange shipBeforeWrong)

/-- 'escribanolaw04.ShipFewer': WHATEVER THE INPUT: true; the input reads as it did. -/
def shipFewerSpec : ChangeSpec := { name := "shipFewer", fn := fun _ => fun
  | [d1, d2] => { results := [.lit (.bool true)], args := [d1, d2] }
  | _ => none }
def shipFewerRow : OpenClaim := { program := "ytnfmmhmfbipkjaa", sum := "0db1f7aa41f84f98242b7c6d05a1f64d4c1a7146dd856ea74703ad0cf05f69b0", func := "escribano/escribanolaw04.ShipFewer", spec := "shipFewer", unfollowed := true, recurses := true, plainKeys := false, apart := false }
def ShipFewerSaid : Prop := shipFewerRow.holds Try.pinned (OpenSpec.ofChange shipFewerSpec)

/-- ITS FALSE NEIGHBOUR: 'it returns false'. Refute it at one input. -/
def shipFewerWrong : ChangeSpec := { name := "shipFewer", fn := fun _ => fun
  | [d1, d2] => { results := [.lit (.bool false)], args := [d1, d2] }
  | _ => none }
def ShipFewerWrongFalsely : Prop := shipFewerRow.holds Try.pinned (OpenSpec.ofChange shipFewerWrong)

/-- 'escribanolaw04.ShipMoved': WHATEVER THE INPUT: true; the input reads as it did. -/
def shipMovedSpec : ChangeSpec := { name := "shipMoved", fn := fun _ => fun
  | [d1, d2] => { results := [.lit (.bool true)], args := [d1, d2] }
  | _ => none }
def shipMovedRow : OpenClaim := { program := "ytnfmmhmfbipkjaa", sum := "0db1f7aa41f84f98242b7c6d05a1f64d4c1a7146dd856ea74703ad0cf05f69b0", func := "escribano/escribanolaw04.ShipMoved", spec := "shipMoved", unfollowed := true, recurses := true, plainKeys := false, apart := false }
def ShipMovedSaid : Prop := shipMovedRow.holds Try.pinned (OpenSpec.ofChange shipMovedSpec)

/-- ITS FALSE NEIGHBOUR: 'it returns false'. Refute it at one input. -/
def shipMovedWrong : ChangeSpec := { name := "shipMoved", fn := fun _ => fun
  | [d1, d2] => { results := [.lit (.bool false)], args := [d1, d2] }
  | _ => none }
def ShipMovedWrongFalsely : Prop := shipMovedRow.holds Try.pinned (OpenSpec.ofChange shipMovedWrong)

/-- 'escribanolaw06.ReplyKnown': WHATEVER THE INPUT: true; the input reads as it did. -/
def replyKnownSpec : ChangeSpec := { name := "replyKnown", fn := fun _ => fun
  | [] => { results := [.lit (.bool true)], args := [] }
  | _ => none }
def replyKnownRow : OpenClaim := { program := "ytnfmmhmfbipkjaa", sum := "0db1f7aa41f84f98242b7c6d05a1f64d4c1a7146dd856ea74703ad0cf05f69b0", func := "escribano/escribanolaw06.ReplyKnown", spec := "replyKnown", unfollowed := true, recurses := true, plainKeys := false, apart := false }
def ReplyKnownSaid : Prop := replyKnownRow.holds Try.pinned (OpenSpec.ofChange replyKnownSpec)

/-- ITS FALSE NEIGHBOUR: 'it returns false'. Refute it at one input. -/
def replyKnownWrong : ChangeSpec := { name := "replyKnown", fn := fun _ => fun
  | [] => { results := [.lit (.bool false)], args := [] }
  | _ => none }
def ReplyKnownWrongFalsely : Prop := replyKnownRow.holds Try.pinned (OpenSpec.ofChange replyKnownWrong)

/- THE SECOND FORM. 'bulk': how many values and letters a reading holds, each counted each time it is reached (what is shared counts as often as it is met; a slice's spare places count too). A statement '..UptoSaid' is the law's where the arguments, and the package variables that the reading takes, are together of bulk at most 1048576: NARROWER than '..Said'. Prove '..Said' where nothing that the law and all that it calls make is longer than what came in: it says more and counts as full. Else prove '..UptoSaid'. A law counts once. -/
mutual
def uptoBulk {H : Type} : DataW H → Nat
  | .lit (.string bytes) => bytes.length + 1
  | .lit _ => 1
  | .nil => 1
  | .ptr d => uptoBulk d + 1
  | .slice elems spare => uptoBulkAll elems + uptoBulkAll spare + 1
  | .agg parts => uptoBulkAll parts + 1
  | .iface _ d => uptoBulk d + 1
  | .map entries => uptoBulkEntries entries + 1
  | .held _ => 1
def uptoBulkAll {H : Type} : List (DataW H) → Nat
  | [] => 0
  | d :: r => uptoBulk d + uptoBulkAll r
def uptoBulkEntries {H : Type} : List (Lit × DataW H) → Nat
  | [] => 0
  | x :: r => uptoBulkEntry x + uptoBulkEntries r
def uptoBulkEntry {H : Type} : Lit × DataW H → Nat
  | (.string bytes, d) => bytes.length + uptoBulk d + 1
  | (_, d) => uptoBulk d + 1
 end
def uptoSmall : (H : Type) → List (DataW H) → Bool := fun _ ds => decide (uptoBulkAll ds ≤ 1048576)
def OpenSpec.upto (s : _root_.Go.ChangeSpec) : _root_.Go.OpenSpec := { _root_.Go.OpenSpec.ofChange s with cond := some uptoSmall }

/-- 'escribanolaw04.ShipCalls', WHERE WHAT IT READS IS OF BULK AT MOST 1048576: true; the input reads as it did. -/
def shipCallsUptoRow : OpenClaim := { program := "ytnfmmhmfbipkjaa", sum := "0db1f7aa41f84f98242b7c6d05a1f64d4c1a7146dd856ea74703ad0cf05f69b0", func := "escribano/escribanolaw04.ShipCalls", spec := "shipCalls", unfollowed := true, recurses := true, plainKeys := false, apart := false, narrowed := true }
def ShipCallsUptoSaid : Prop := shipCallsUptoRow.holds Try.pinned (OpenSpec.upto shipCallsSpec)

/-- 'escribanolaw04.ShipComes', WHERE WHAT IT READS IS OF BULK AT MOST 1048576: true; the input reads as it did. -/
def shipComesUptoRow : OpenClaim := { program := "ytnfmmhmfbipkjaa", sum := "0db1f7aa41f84f98242b7c6d05a1f64d4c1a7146dd856ea74703ad0cf05f69b0", func := "escribano/escribanolaw04.ShipComes", spec := "shipComes", unfollowed := true, recurses := true, plainKeys := false, apart := false, narrowed := true }
def ShipComesUptoSaid : Prop := shipComesUptoRow.holds Try.pinned (OpenSpec.upto shipComesSpec)

/-- 'escribanolaw04.ShipWrongs', WHERE WHAT IT READS IS OF BULK AT MOST 1048576: true; the input reads as it did. -/
def shipWrongsUptoRow : OpenClaim := { program := "ytnfmmhmfbipkjaa", sum := "0db1f7aa41f84f98242b7c6d05a1f64d4c1a7146dd856ea74703ad0cf05f69b0", func := "escribano/escribanolaw04.ShipWrongs", spec := "shipWrongs", unfollowed := true, recurses := true, plainKeys := false, apart := false, narrowed := true }
def ShipWrongsUptoSaid : Prop := shipWrongsUptoRow.holds Try.pinned (OpenSpec.upto shipWrongsSpec)

/-- 'escribanolaw04.ShipKnown', WHERE WHAT IT READS IS OF BULK AT MOST 1048576: true; the input reads as it did. -/
def shipKnownUptoRow : OpenClaim := { program := "ytnfmmhmfbipkjaa", sum := "0db1f7aa41f84f98242b7c6d05a1f64d4c1a7146dd856ea74703ad0cf05f69b0", func := "escribano/escribanolaw04.ShipKnown", spec := "shipKnown", unfollowed := true, recurses := true, plainKeys := false, apart := false, narrowed := true }
def ShipKnownUptoSaid : Prop := shipKnownUptoRow.holds Try.pinned (OpenSpec.upto shipKnownSpec)

/-- 'escribanolaw04.ShipTrue', WHERE WHAT IT READS IS OF BULK AT MOST 1048576: true; the input reads as it did. -/
def shipTrueUptoRow : OpenClaim := { program := "ytnfmmhmfbipkjaa", sum := "0db1f7aa41f84f98242b7c6d05a1f64d4c1a7146dd856ea74703ad0cf05f69b0", func := "escribano/escribanolaw04.ShipTrue", spec := "shipTrue", unfollowed := true, recurses := true, plainKeys := false, apart := false, narrowed := true }
def ShipTrueUptoSaid : Prop := shipTrueUptoRow.holds Try.pinned (OpenSpec.upto shipTrueSpec)

/-- 'escribanolaw04.ShipFewest', WHERE WHAT IT READS IS OF BULK AT MOST 1048576: true; the input reads as it did. -/
def shipFewestUptoRow : OpenClaim := { program := "ytnfmmhmfbipkjaa", sum := "0db1f7aa41f84f98242b7c6d05a1f64d4c1a7146dd856ea74703ad0cf05f69b0", func := "escribano/escribanolaw04.ShipFewest", spec := "shipFewest", unfollowed := true, recurses := true, plainKeys := false, apart := false, narrowed := true }
def ShipFewestUptoSaid : Prop := shipFewestUptoRow.holds Try.pinned (OpenSpec.upto shipFewestSpec)

/-- 'escribanolaw04.ShipMore', WHERE WHAT IT READS IS OF BULK AT MOST 1048576: true; the input reads as it did. -/
def shipMoreUptoRow : OpenClaim := { program := "ytnfmmhmfbipkjaa", sum := "0db1f7aa41f84f98242b7c6d05a1f64d4c1a7146dd856ea74703ad0cf05f69b0", func := "escribano/escribanolaw04.ShipMore", spec := "shipMore", unfollowed := true, recurses := true, plainKeys := false, apart := false, narrowed := true }
def ShipMoreUptoSaid : Prop := shipMoreUptoRow.holds Try.pinned (OpenSpec.upto shipMoreSpec)

/-- 'escribanolaw04.ShipSent', WHERE WHAT IT READS IS OF BULK AT MOST 1048576: true; the input reads as it did. -/
def shipSentUptoRow : OpenClaim := { program := "ytnfmmhmfbipkjaa", sum := "0db1f7aa41f84f98242b7c6d05a1f64d4c1a7146dd856ea74703ad0cf05f69b0", func := "escribano/escribanolaw04.ShipSent", spec := "shipSent", unfollowed := true, recurses := true, plainKeys := false, apart := false, narrowed := true }
def ShipSentUptoSaid : Prop := shipSentUptoRow.holds Try.pinned (OpenSpec.upto shipSentSpec)

/-- 'escribanolaw04.ShipLater', WHERE WHAT IT READS IS OF BULK AT MOST 1048576: true; the input reads as it did. -/
def shipLaterUptoRow : OpenClaim := { program := "ytnfmmhmfbipkjaa", sum := "0db1f7aa41f84f98242b7c6d05a1f64d4c1a7146dd856ea74703ad0cf05f69b0", func := "escribano/escribanolaw04.ShipLater", spec := "shipLater", unfollowed := true, recurses := true, plainKeys := false, apart := false, narrowed := true }
def ShipLaterUptoSaid : Prop := shipLaterUptoRow.holds Try.pinned (OpenSpec.upto shipLaterSpec)

/-- 'escribanolaw04.ShipBefore', WHERE WHAT IT READS IS OF BULK AT MOST 1048576: true; the input reads as it did. -/
def shipBeforeUptoRow : OpenClaim := { program := "ytnfmmhmfbipkjaa", sum := "0db1f7aa41f84f98242b7c6d05a1f64d4c1a7146dd856ea74703ad0cf05f69b0", func := "escribano/escribanolaw04.ShipBefore", spec := "shipBefore", unfollowed := true, recurses := true, plainKeys := false, apart := false, narrowed := true }
def ShipBeforeUptoSaid : Prop := shipBeforeUptoRow.holds Try.pinned (OpenSpec.upto shipBeforeSpec)

/-- 'escribanolaw04.ShipFewer', WHERE WHAT IT READS IS OF BULK AT MOST 1048576: true; the input reads as it did. -/
def shipFewerUptoRow : OpenClaim := { program := "ytnfmmhmfbipkjaa", sum := "0db1f7aa41f84f98242b7c6d05a1f64d4c1a7146dd856ea74703ad0cf05f69b0", func := "escribano/escribanolaw04.ShipFewer", spec := "shipFewer", unfollowed := true, recurses := true, plainKeys := false, apart := false, narrowed := true }
def ShipFewerUptoSaid : Prop := shipFewerUptoRow.holds Try.pinned (OpenSpec.upto shipFewerSpec)

/-- 'escribanolaw04.ShipMoved', WHERE WHAT IT READS IS OF BULK AT MOST 1048576: true; the input reads as it did. -/
def shipMovedUptoRow : OpenClaim := { program := "ytnfmmhmfbipkjaa", sum := "0db1f7aa41f84f98242b7c6d05a1f64d4c1a7146dd856ea74703ad0cf05f69b0", func := "escribano/escribanolaw04.ShipMoved", spec := "shipMoved", unfollowed := true, recurses := true, plainKeys := false, apart := false, narrowed := true }
def ShipMovedUptoSaid : Prop := shipMovedUptoRow.holds Try.pinned (OpenSpec.upto shipMovedSpec)

/-- 'escribanolaw06.ReplyKnown', WHERE WHAT IT READS IS OF BULK AT MOST 1048576: true; the input reads as it did. -/
def replyKnownUptoRow : OpenClaim := { program := "ytnfmmhmfbipkjaa", sum := "0db1f7aa41f84f98242b7c6d05a1f64d4c1a7146dd856ea74703ad0cf05f69b0", func := "escribano/escribanolaw06.ReplyKnown", spec := "replyKnown", unfollowed := true, recurses := true, plainKeys := false, apart := false, narrowed := true }
def ReplyKnownUptoSaid : Prop := replyKnownUptoRow.holds Try.pinned (OpenSpec.upto replyKnownSpec)

end Rows
end Go.Proofs.Ytnfmmhmfbipkjaa
