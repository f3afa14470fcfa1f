/-
  No cell of these rows narrows 'for every input' (looked for: loops, veiled, ifaces, maps, wideKeys, modest, calm, conditions, laid).
  DERIVED. THE GIVEN ROWS OF THIS SEAT. 14 by the template 'for every input the law returns true; each argument reads behind the call as it read before'; 0 by the template 'total and deterministic' (their statements: YtakkdmdkelbnjaaTotals.lean).
  GIVEN WITH THE SEED: the statements are not yours to turn. If you find one false, say at which input.
  Laid BY PROGRAM, IN A SANDBOX (cutbox-rows.mjs): the forced cells as the released guide's own fill.sh prints them over the translation f55abaae7a0250d7… (all of the seat's roots in one cut). By AI agents, Wed Nov 11 2026. No macro, syntax, notation, axiom, sorry.
-/
import Derived.Test.YtakkdmdkelbnjaaChecked
import GoSem.Claim
import GoSem.ClaimJoined
import GoSem.ClaimMapViews
import Derived.JoinedTies
import Derived.KernelRfl
namespace Go.Proofs.Ytakkdmdkelbnjaa
/- THE CELL 'sum', in the pinned program and in every row, IS THE sha256 OF THE DUMP (.gsa) THAT YtakkdmdkelbnjaaProg.lean LOADS. Nothing in Lean hashes anything: it is a label: what it is worth is what the hold of that sum in a sandbox is worth. -/
noncomputable def Try.pinned : Pinned := { name := "ytakkdmdkelbnjaa", sum := "f55abaae7a0250d7aaab8869558834d8c3a24d8a68cdedb39415e4769229e4bf", checked := Try.checked }
namespace Rows
def none {H : Type} : Left H := { results := [], args := [] }

/-- 'escribanolaw10.ChestFinds': WHATEVER THE INPUT: true; the input reads as it did. -/
def chestFindsSpec : ChangeSpec := { name := "chestFinds", fn := fun _ => fun
  | [d1, d2, d3] => { results := [.lit (.bool true)], args := [d1, d2, d3] }
  | _ => none }
def chestFindsRow : OpenClaim := { program := "ytakkdmdkelbnjaa", sum := "f55abaae7a0250d7aaab8869558834d8c3a24d8a68cdedb39415e4769229e4bf", func := "escribano/escribanolaw10.ChestFinds", spec := "chestFinds", unfollowed := true, recurses := true, apart := false }
def ChestFindsSaid : Prop := chestFindsRow.holds Try.pinned (OpenSpec.ofChange chestFindsSpec)

/-- ITS FALSE NEIGHBOUR: 'it returns false'. Refute it at one input. -/
def chestFindsWrong : ChangeSpec := { name := "chestFinds", fn := fun _ => fun
  | [d1, d2, d3] => { results := [.lit (.bool false)], args := [d1, d2, d3] }
  | _ => none }
def ChestFindsWrongFalsely : Prop := chestFindsRow.holds Try.pinned (OpenSpec.ofChange chestFindsWrong)

/-- 'escribanolaw10.ChestKeys': WHATEVER THE INPUT: true; the input reads as it did. -/
def chestKeysSpec : ChangeSpec := { name := "chestKeys", fn := fun _ => fun
  | [d1, d2] => { results := [.lit (.bool true)], args := [d1, d2] }
  | _ => none }
def chestKeysRow : OpenClaim := { program := "ytakkdmdkelbnjaa", sum := "f55abaae7a0250d7aaab8869558834d8c3a24d8a68cdedb39415e4769229e4bf", func := "escribano/escribanolaw10.ChestKeys", spec := "chestKeys", unfollowed := true, recurses := true, apart := false }
def ChestKeysSaid : Prop := chestKeysRow.holds Try.pinned (OpenSpec.ofChange chestKeysSpec)

/-- ITS FALSE NEIGHBOUR: 'it returns false'. Refute it at one input. -/
def chestKeysWrong : ChangeSpec := { name := "chestKeys", fn := fun _ => fun
  | [d1, d2] => { results := [.lit (.bool false)], args := [d1, d2] }
  | _ => none }
def ChestKeysWrongFalsely : Prop := chestKeysRow.holds Try.pinned (OpenSpec.ofChange chestKeysWrong)

/-- 'escribanolaw10.ChestKnows': WHATEVER THE INPUT: true; the input reads as it did. -/
def chestKnowsSpec : ChangeSpec := { name := "chestKnows", fn := fun _ => fun
  | [d1, d2, d3] => { results := [.lit (.bool true)], args := [d1, d2, d3] }
  | _ => none }
def chestKnowsRow : OpenClaim := { program := "ytakkdmdkelbnjaa", sum := "f55abaae7a0250d7aaab8869558834d8c3a24d8a68cdedb39415e4769229e4bf", func := "escribano/escribanolaw10.ChestKnows", spec := "chestKnows", unfollowed := true, recurses := true, apart := false }
def ChestKnowsSaid : Prop := chestKnowsRow.holds Try.pinned (OpenSpec.ofChange chestKnowsSpec)

/-- ITS FALSE NEIGHBOUR: 'it returns false'. Refute it at one input. -/
def chestKnowsWrong : ChangeSpec := { name := "chestKnows", fn := fun _ => fun
  | [d1, d2, d3] => { results := [.lit (.bool false)], args := [d1, d2, d3] }
  | _ => none }
def ChestKnowsWrongFalsely : Prop := chestKnowsRow.holds Try.pinned (OpenSpec.ofChange chestKnowsWrong)

/-- 'escribanolaw10.ChestLocks': WHATEVER THE INPUT: true; the input reads as it did. -/
def chestLocksSpec : ChangeSpec := { name := "chestLocks", fn := fun _ => fun
  | [d1, d2] => { results := [.lit (.bool true)], args := [d1, d2] }
  | _ => none }
def chestLocksRow : OpenClaim := { program := "ytakkdmdkelbnjaa", sum := "f55abaae7a0250d7aaab8869558834d8c3a24d8a68cdedb39415e4769229e4bf", func := "escribano/escribanolaw10.ChestLocks", spec := "chestLocks", unfollowed := true, recurses := true, apart := false }
def ChestLocksSaid : Prop := chestLocksRow.holds Try.pinned (OpenSpec.ofChange chestLocksSpec)

/-- ITS FALSE NEIGHBOUR: 'it returns false'. Refute it at one input. -/
def chestLocksWrong : ChangeSpec := { name := "chestLocks", fn := fun _ => fun
  | [d1, d2] => { results := [.lit (.bool false)], args := [d1, d2] }
  | _ => none }
def ChestLocksWrongFalsely : Prop := chestLocksRow.holds Try.pinned (OpenSpec.ofChange chestLocksWrong)

/-- 'escribanolaw10.ChestKnown': WHATEVER THE INPUT: true; the input reads as it did. -/
def chestKnownSpec : ChangeSpec := { name := "chestKnown", fn := fun _ => fun
  | [] => { results := [.lit (.bool true)], args := [] }
  | _ => none }
def chestKnownRow : OpenClaim := { program := "ytakkdmdkelbnjaa", sum := "f55abaae7a0250d7aaab8869558834d8c3a24d8a68cdedb39415e4769229e4bf", func := "escribano/escribanolaw10.ChestKnown", spec := "chestKnown", unfollowed := true, recurses := true, apart := false }
def ChestKnownSaid : Prop := chestKnownRow.holds Try.pinned (OpenSpec.ofChange chestKnownSpec)

/-- ITS FALSE NEIGHBOUR: 'it returns false'. Refute it at one input. -/
def chestKnownWrong : ChangeSpec := { name := "chestKnown", fn := fun _ => fun
  | [] => { results := [.lit (.bool false)], args := [] }
  | _ => none }
def ChestKnownWrongFalsely : Prop := chestKnownRow.holds Try.pinned (OpenSpec.ofChange chestKnownWrong)

/-- 'escribanolaw10.ChestFound': WHATEVER THE INPUT: true; the input reads as it did. -/
def chestFoundSpec : ChangeSpec := { name := "chestFound", fn := fun _ => fun
  | [d1, d2] => { results := [.lit (.bool true)], args := [d1, d2] }
  | _ => none }
def chestFoundRow : OpenClaim := { program := "ytakkdmdkelbnjaa", sum := "f55abaae7a0250d7aaab8869558834d8c3a24d8a68cdedb39415e4769229e4bf", func := "escribano/escribanolaw10.ChestFound", spec := "chestFound", unfollowed := true, recurses := true, apart := false }
def ChestFoundSaid : Prop := chestFoundRow.holds Try.pinned (OpenSpec.ofChange chestFoundSpec)

/-- ITS FALSE NEIGHBOUR: 'it returns false'. Refute it at one input. -/
def chestFoundWrong : ChangeSpec := { name := "chestFound", fn := fun _ => fun
  | [d1, d2] => { results := [.lit (.bool false)], args := [d1, d2] }
  | _ => none }
def ChestFoundWrongFalsely : Prop := chestFoundRow.holds Try.pinned (OpenSpec.ofChange chestFoundWrong)

/-- 'escribanolaw10.ChestKey': WHATEVER THE INPUT: true; the input reads as it did. -/
def chestKeySpec : ChangeSpec := { name := "chestKey", fn := fun _ => fun
  | [d1, d2] => { results := [.lit (.bool true)], args := [d1, d2] }
  | _ => none }
def chestKeyRow : OpenClaim := { program := "ytakkdmdkelbnjaa", sum := "f55abaae7a0250d7aaab8869558834d8c3a24d8a68cdedb39415e4769229e4bf", func := "escribano/escribanolaw10.ChestKey", spec := "chestKey", unfollowed := true, recurses := true, apart := false }
def ChestKeySaid : Prop := chestKeyRow.holds Try.pinned (OpenSpec.ofChange chestKeySpec)

/-- ITS FALSE NEIGHBOUR: 'it returns false'. Refute it at one input. -/
def chestKeyWrong : ChangeSpec := { name := "chestKey", fn := fun _ => fun
  | [d1, d2] => { results := [.lit (.bool false)], args := [d1, d2] }
  | _ => none }
def ChestKeyWrongFalsely : Prop := chestKeyRow.holds Try.pinned (OpenSpec.ofChange chestKeyWrong)

/-- 'escribanolaw10.ChestMore': WHATEVER THE INPUT: true; the input reads as it did. -/
def chestMoreSpec : ChangeSpec := { name := "chestMore", fn := fun _ => fun
  | [d1, d2] => { results := [.lit (.bool true)], args := [d1, d2] }
  | _ => none }
def chestMoreRow : OpenClaim := { program := "ytakkdmdkelbnjaa", sum := "f55abaae7a0250d7aaab8869558834d8c3a24d8a68cdedb39415e4769229e4bf", func := "escribano/escribanolaw10.ChestMore", spec := "chestMore", unfollowed := true, recurses := true, apart := false }
def ChestMoreSaid : Prop := chestMoreRow.holds Try.pinned (OpenSpec.ofChange chestMoreSpec)

/-- ITS FALSE NEIGHBOUR: 'it returns false'. Refute it at one input. -/
def chestMoreWrong : ChangeSpec := { name := "chestMore", fn := fun _ => fun
  | [d1, d2] => { results := [.lit (.bool false)], args := [d1, d2] }
  | _ => none }
def ChestMoreWrongFalsely : Prop := chestMoreRow.holds Try.pinned (OpenSpec.ofChange chestMoreWrong)

/-- 'escribanolaw10.ChestTold': WHATEVER THE INPUT: true; the input reads as it did. -/
def chestToldSpec : ChangeSpec := { name := "chestTold", fn := fun _ => fun
  | [d1, d2] => { results := [.lit (.bool true)], args := [d1, d2] }
  | _ => none }
def chestToldRow : OpenClaim := { program := "ytakkdmdkelbnjaa", sum := "f55abaae7a0250d7aaab8869558834d8c3a24d8a68cdedb39415e4769229e4bf", func := "escribano/escribanolaw10.ChestTold", spec := "chestTold", unfollowed := true, recurses := true, apart := false }
def ChestToldSaid : Prop := chestToldRow.holds Try.pinned (OpenSpec.ofChange chestToldSpec)

/-- ITS FALSE NEIGHBOUR: 'it returns false'. Refute it at one input. -/
def chestToldWrong : ChangeSpec := { name := "chestTold", fn := fun _ => fun
  | [d1, d2] => { results := [.lit (.bool false)], args := [d1, d2] }
  | _ => none }
def ChestToldWrongFalsely : Prop := chestToldRow.holds Try.pinned (OpenSpec.ofChange chestToldWrong)

/-- 'escribanolaw10.ChestLock': WHATEVER THE INPUT: true; the input reads as it did. -/
def chestLockSpec : ChangeSpec := { name := "chestLock", fn := fun _ => fun
  | [d1, d2] => { results := [.lit (.bool true)], args := [d1, d2] }
  | _ => none }
def chestLockRow : OpenClaim := { program := "ytakkdmdkelbnjaa", sum := "f55abaae7a0250d7aaab8869558834d8c3a24d8a68cdedb39415e4769229e4bf", func := "escribano/escribanolaw10.ChestLock", spec := "chestLock", unfollowed := true, recurses := true, apart := false }
def ChestLockSaid : Prop := chestLockRow.holds Try.pinned (OpenSpec.ofChange chestLockSpec)

/-- ITS FALSE NEIGHBOUR: 'it returns false'. Refute it at one input. -/
def chestLockWrong : ChangeSpec := { name := "chestLock", fn := fun _ => fun
  | [d1, d2] => { results := [.lit (.bool false)], args := [d1, d2] }
  | _ => none }
def ChestLockWrongFalsely : Prop := chestLockRow.holds Try.pinned (OpenSpec.ofChange chestLockWrong)

/-- 'escribanolaw10.ChestWhy': WHATEVER THE INPUT: true; the input reads as it did. -/
def chestWhySpec : ChangeSpec := { name := "chestWhy", fn := fun _ => fun
  | [d1, d2] => { results := [.lit (.bool true)], args := [d1, d2] }
  | _ => none }
def chestWhyRow : OpenClaim := { program := "ytakkdmdkelbnjaa", sum := "f55abaae7a0250d7aaab8869558834d8c3a24d8a68cdedb39415e4769229e4bf", func := "escribano/escribanolaw10.ChestWhy", spec := "chestWhy", unfollowed := true, recurses := true, apart := false }
def ChestWhySaid : Prop := chestWhyRow.holds Try.pinned (OpenSpec.ofChange chestWhySpec)

/-- ITS FALSE NEIGHBOUR: 'it returns false'. Refute it at one input. -/
def chestWhyWrong : ChangeSpec := { name := "chestWhy", fn := fun _ => fun
  | [d1, d2] => { results := [.lit (.bool false)], args := [d1, d2] }
  | _ => none }
def ChestWhyWrongFalsely : Prop := chestWhyRow.holds Try.pinned (OpenSpec.ofChange chestWhyWrong)

/-- 'escribanolaw10.ChestLeast': WHATEVER THE INPUT: true; the input reads as it did. -/
def chestLeastSpec : ChangeSpec := { name := "chestLeast", fn := fun _ => fun
  | [d1, d2] => { results := [.lit (.bool true)], args := [d1, d2] }
  | _ => none }
def chestLeastRow : OpenClaim := { program := "ytakkdmdkelbnjaa", sum := "f55abaae7a0250d7aaab8869558834d8c3a24d8a68cdedb39415e4769229e4bf", func := "escribano/escribanolaw10.ChestLeast", spec := "chestLeast", unfollowed := true, recurses := true, apart := false }
def ChestLeastSaid : Prop := chestLeastRow.holds Try.pinned (OpenSpec.ofChange chestLeastSpec)

/-- ITS FALSE NEIGHBOUR: 'it returns false'. Refute it at one input. -/
def chestLeastWrong : ChangeSpec := { name := "chestLeast", fn := fun _ => fun
  | [d1, d2] => { results := [.lit (.bool false)], args := [d1, d2] }
  | _ => none }
def ChestLeastWrongFalsely : Prop := chestLeastRow.holds Try.pinned (OpenSpec.ofChange chestLeastWrong)

/-- 'escribanolaw10.ChestNumbers': WHATEVER THE INPUT: true; the input reads as it did. -/
def chestNumbersSpec : ChangeSpec := { name := "chestNumbers", fn := fun _ => fun
  | [d1, d2] => { results := [.lit (.bool true)], args := [d1, d2] }
  | _ => none }
def chestNumbersRow : OpenClaim := { program := "ytakkdmdkelbnjaa", sum := "f55abaae7a0250d7aaab8869558834d8c3a24d8a68cdedb39415e4769229e4bf", func := "escribano/escribanolaw10.ChestNumbers", spec := "chestNumbers", unfollowed := true, recurses := true, apart := false }
def ChestNumbersSaid : Prop := chestNumbersRow.holds Try.pinned (OpenSpec.ofChange chestNumbersSpec)

/-- ITS FALSE NEIGHBOUR: 'it returns false'. Refute it at one input. -/
def chestNumbersWrong : ChangeSpec := { name := "chestNumbers", fn := fun _ => fun
  | [d1, d2] => { results := [.lit (.bool false)], args := [d1, d2] }
  | _ => none }
def ChestNumbersWrongFalsely : Prop := chestNumbersRow.holds Try.pinned (OpenSpec.ofChange chestNumbersWrong)

/-- 'escribanolaw10.ChestMay': WHATEVER THE INPUT: true; the input reads as it did. -/
def chestMaySpec : ChangeSpec := { name := "chestMay", fn := fun _ => fun
  | [d1, d2] => { results := [.lit (.bool true)], args := [d1, d2] }
  | _ => none }
def chestMayRow : OpenClaim := { program := "ytakkdmdkelbnjaa", sum := "f55abaae7a0250d7aaab8869558834d8c3a24d8a68cdedb39415e4769229e4bf", func := "escribano/escribanolaw10.ChestMay", spec := "chestMay", unfollowed := true, recurses := true, apart := false }
def ChestMaySaid : Prop := chestMayRow.holds Try.pinned (OpenSpec.ofChange chestMaySpec)

/-- ITS FALSE NEIGHBOUR: 'it returns false'. Refute it at one input. -/
def chestMayWrong : ChangeSpec := { name := "chestMay", fn := fun _ => fun
  | [d1, d2] => { results := [.lit (.bool false)], args := [d1, d2] }
  | _ => none }
def ChestMayWrongFalsely : Prop := chestMayRow.holds Try.pinned (OpenSpec.ofChange chestMayWrong)

/- THE SECOND FORM. 'bulk': how many values and letters a reading holds, each counted each time it is reached (what is shared counts as often as it is met; a slice's spare places count too). A statement '..UptoSaid' is the law's where the arguments, and the package variables that the reading takes, are together of bulk at most 1048576: NARROWER than '..Said'. Prove '..Said' where nothing that the law and all that it calls make is longer than what came in: it says more and counts as full. Else prove '..UptoSaid'. A law counts once. -/
mutual
def uptoBulk {H : Type} : DataW H → Nat
  | .lit (.string bytes) => bytes.length + 1
  | .lit _ => 1
  | .nil => 1
  | .ptr d => uptoBulk d + 1
  | .slice elems spare => uptoBulkAll elems + uptoBulkAll spare + 1
  | .agg parts => uptoBulkAll parts + 1
  | .iface _ d => uptoBulk d + 1
  | .map entries => uptoBulkEntries entries + 1
  | .held _ => 1
def uptoBulkAll {H : Type} : List (DataW H) → Nat
  | [] => 0
  | d :: r => uptoBulk d + uptoBulkAll r
def uptoBulkEntries {H : Type} : List (Lit × DataW H) → Nat
  | [] => 0
  | x :: r => uptoBulkEntry x + uptoBulkEntries r
def uptoBulkEntry {H : Type} : Lit × DataW H → Nat
  | (.string bytes, d) => bytes.length + uptoBulk d + 1
  | (_, d) => uptoBulk d + 1
 end
def uptoSmall : (H : Type) → List (DataW H) → Bool := fun _ ds => decide (uptoBulkAll ds ≤ 1048576)
def OpenSpec.upto (s : _root_.Go.ChangeSpec) : _root_.Go.OpenSpec := { _root_.Go.OpenSpec.ofChange s with cond := some uptoSmall }

/-- 'escribanolaw10.ChestFinds', WHERE WHAT IT READS IS OF BULK AT MOST 1048576: true; the input reads as it did. -/
def chestFindsUptoRow : OpenClaim := { program := "ytakkdmdkelbnjaa", sum := "f55abaae7a0250d7aaab8869558834d8c3a24d8a68cdedb39415e4769229e4bf", func := "escribano/escribanolaw10.ChestFinds", spec := "chestFinds", unfollowed := true, recurses := true, apart := false, narrowed := true }
def ChestFindsUptoSaid : Prop := chestFindsUptoRow.holds Try.pinned (OpenSpec.upto chestFindsSpec)

/-- 'escribanolaw10.ChestKeys', WHERE WHAT IT READS IS OF BULK AT MOST 1048576: true; the input reads as it did. -/
def chestKeysUptoRow : OpenClaim := { program := "ytakkdmdkelbnjaa", sum := "f55abaae7a0250d7aaab8869558834d8c3a24d8a68cdedb39415e4769229e4bf", func := "escribano/escribanolaw10.ChestKeys", spec := "chestKeys", unfollowed := true, recurses := true, apart := false, narrowed := true }
def ChestKeysUptoSaid : Prop := chestKeysUptoRow.holds Try.pinned (OpenSpec.upto chestKeysSpec)

/-- 'escribanolaw10.ChestKnows', WHERE WHAT IT READS IS OF BULK AT MOST 1048576: true; the input reads as it did. -/
def chestKnowsUptoRow : OpenClaim := { program := "ytakkdmdkelbnjaa", sum := "f55abaae7a0250d7aaab8869558834d8c3a24d8a68cdedb39415e4769229e4bf", func := "escribano/escribanolaw10.ChestKnows", spec := "chestKnows", unfollowed := true, recurses := true, apart := false, narrowed := true }
def ChestKnowsUptoSaid : Prop := chestKnowsUptoRow.holds Try.pinned (OpenSpec.upto chestKnowsSpec)

/-- 'escribanolaw10.ChestLocks', WHERE WHAT IT READS IS OF BULK AT MOST 1048576: true; the input reads as it did. -/
def chestLocksUptoRow : OpenClaim := { program := "ytakkdmdkelbnjaa", sum := "f55abaae7a0250d7aaab8869558834d8c3a24d8a68cdedb39415e4769229e4bf", func := "escribano/escribanolaw10.ChestLocks", spec := "chestLocks", unfollowed := true, recurses := true, apart := false, narrowed := true }
def ChestLocksUptoSaid : Prop := chestLocksUptoRow.holds Try.pinned (OpenSpec.upto chestLocksSpec)

/-- 'escribanolaw10.ChestKnown', WHERE WHAT IT READS IS OF BULK AT MOST 1048576: true; the input reads as it did. -/
def chestKnownUptoRow : OpenClaim := { program := "ytakkdmdkelbnjaa", sum := "f55abaae7a0250d7aaab8869558834d8c3a24d8a68cdedb39415e4769229e4bf", func := "escribano/escribanolaw10.ChestKnown", spec := "chestKnown", unfollowed := true, recurses := true, apart := false, narrowed := true }
def ChestKnownUptoSaid : Prop := chestKnownUptoRow.holds Try.pinned (OpenSpec.upto chestKnownSpec)

/-- 'escribanolaw10.ChestFound', WHERE WHAT IT READS IS OF BULK AT MOST 1048576: true; the input reads as it did. -/
def chestFoundUptoRow : OpenClaim := { program := "ytakkdmdkelbnjaa", sum := "f55abaae7a0250d7aaab8869558834d8c3a24d8a68cdedb39415e4769229e4bf", func := "escribano/escribanolaw10.ChestFound", spec := "chestFound", unfollowed := true, recurses := true, apart := false, narrowed := true }
def ChestFoundUptoSaid : Prop := chestFoundUptoRow.holds Try.pinned (OpenSpec.upto chestFoundSpec)

/-- 'escribanolaw10.ChestKey', WHERE WHAT IT READS IS OF BULK AT MOST 1048576: true; the input reads as it did. -/
def chestKeyUptoRow : OpenClaim := { program := "ytakkdmdkelbnjaa", sum := "f55abaae7a0250d7aaab8869558834d8c3a24d8a68cdedb39415e4769229e4bf", func := "escribano/escribanolaw10.ChestKey", spec := "chestKey", unfollowed := true, recurses := true, apart := false, narrowed := true }
def ChestKeyUptoSaid : Prop := chestKeyUptoRow.holds Try.pinned (OpenSpec.upto chestKeySpec)

/-- 'escribanolaw10.ChestMore', WHERE WHAT IT READS IS OF BULK AT MOST 1048576: true; the input reads as it did. -/
def chestMoreUptoRow : OpenClaim := { program := "ytakkdmdkelbnjaa", sum := "f55abaae7a0250d7aaab8869558834d8c3a24d8a68cdedb39415e4769229e4bf", func := "escribano/escribanolaw10.ChestMore", spec := "chestMore", unfollowed := true, recurses := true, apart := false, narrowed := true }
def ChestMoreUptoSaid : Prop := chestMoreUptoRow.holds Try.pinned (OpenSpec.upto chestMoreSpec)

/-- 'escribanolaw10.ChestTold', WHERE WHAT IT READS IS OF BULK AT MOST 1048576: true; the input reads as it did. -/
def chestToldUptoRow : OpenClaim := { program := "ytakkdmdkelbnjaa", sum := "f55abaae7a0250d7aaab8869558834d8c3a24d8a68cdedb39415e4769229e4bf", func := "escribano/escribanolaw10.ChestTold", spec := "chestTold", unfollowed := true, recurses := true, apart := false, narrowed := true }
def ChestToldUptoSaid : Prop := chestToldUptoRow.holds Try.pinned (OpenSpec.upto chestToldSpec)

/-- 'escribanolaw10.ChestLock', WHERE WHAT IT READS IS OF BULK AT MOST 1048576: true; the input reads as it did. -/
def chestLockUptoRow : OpenClaim := { program := "ytakkdmdkelbnjaa", sum := "f55abaae7a0250d7aaab8869558834d8c3a24d8a68cdedb39415e4769229e4bf", func := "escribano/escribanolaw10.ChestLock", spec := "chestLock", unfollowed := true, recurses := true, apart := false, narrowed := true }
def ChestLockUptoSaid : Prop := chestLockUptoRow.holds Try.pinned (OpenSpec.upto chestLockSpec)

/-- 'escribanolaw10.ChestWhy', WHERE WHAT IT READS IS OF BULK AT MOST 1048576: true; the input reads as it did. -/
def chestWhyUptoRow : OpenClaim := { program := "ytakkdmdkelbnjaa", sum := "f55abaae7a0250d7aaab8869558834d8c3a24d8a68cdedb39415e4769229e4bf", func := "escribano/escribanolaw10.ChestWhy", spec := "chestWhy", unfollowed := true, recurses := true, apart := false, narrowed := true }
def ChestWhyUptoSaid : Prop := chestWhyUptoRow.holds Try.pinned (OpenSpec.upto chestWhySpec)

/-- 'escribanolaw10.ChestLeast', WHERE WHAT IT READS IS OF BULK AT MOST 1048576: true; the input reads as it did. -/
def chestLeastUptoRow : OpenClaim := { program := "ytakkdmdkelbnjaa", sum := "f55abaae7a0250d7aaab8869558834d8c3a24d8a68cdedb39415e4769229e4bf", func := "escribano/escribanolaw10.ChestLeast", spec := "chestLeast", unfollowed := true, recurses := true, apart := false, narrowed := true }
def ChestLeastUptoSaid : Prop := chestLeastUptoRow.holds Try.pinned (OpenSpec.upto chestLeastSpec)

/-- 'escribanolaw10.ChestNumbers', WHERE WHAT IT READS IS OF BULK AT MOST 1048576: true; the input reads as it did. -/
def chestNumbersUptoRow : OpenClaim := { program := "ytakkdmdkelbnjaa", sum := "f55abaae7a0250d7aaab8869558834d8c3a24d8a68cdedb39415e4769229e4bf", func := "escribano/escribanolaw10.ChestNumbers", spec := "chestNumbers", unfollowed := true, recurses := true, apart := false, narrowed := true }
def ChestNumbersUptoSaid : Prop := chestNumbersUptoRow.holds Try.pinned (OpenSpec.upto chestNumbersSpec)

/-- 'escribanolaw10.ChestMay', WHERE WHAT IT READS IS OF BULK AT MOST 1048576: true; the input reads as it did. -/
def chestMayUptoRow : OpenClaim := { program := "ytakkdmdkelbnjaa", sum := "f55abaae7a0250d7aaab8869558834d8c3a24d8a68cdedb39415e4769229e4bf", func := "escribano/escribanolaw10.ChestMay", spec := "chestMay", unfollowed := true, recurses := true, apart := false, narrowed := true }
def ChestMayUptoSaid : Prop := chestMayUptoRow.holds Try.pinned (OpenSpec.upto chestMaySpec)

end Rows
end Go.Proofs.Ytakkdmdkelbnjaa
