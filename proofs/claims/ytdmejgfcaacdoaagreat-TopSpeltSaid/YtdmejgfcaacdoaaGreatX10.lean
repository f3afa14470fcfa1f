/- Lemmas for the statements of this seat (X10): they hold without conditions beyond those that each one states. -/
import Derived.Test.YtdmejgfcaacdoaaGreatX9
import Derived.Lib.SliceRun
/- The abstract machine,part 36: calls with a nil slice; appends of nothing; copies of less than there is room for; slices that are no nil ones; calls that are lent memory. -/
namespace Go.Proofs.YtdmejgfcaacdoaaGreat.Abs
set_option linter.unusedSimpArgs false
open Go Go.RowKit
section
variable {E : Env} {G : Gh} {w : World} {a : Act} {st : St} {n : Nat}
end
theorem weak_nil {com : Nat → Nat} {w : World} {b off cap sz : Nat} (hc : cap ≤ maxLen) {v : Value} (h : Rep com w (.mslice b off 0 cap) v) : Rep com w (.slice sz []) v := by
 rcases rep_mslice h with e | ⟨_,_,e⟩
 ·rw [e]; exact .emptyslice _ _ _ hc
 ·rw [e]; exact .nilslice _
end Go.Proofs.YtdmejgfcaacdoaaGreat.Abs
