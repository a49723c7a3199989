/- Arguments opened: whole numbers within their range. Texts of this claim's session, put together: Open. -/
import Derived.ProofKit
import Derived.Lib.SmallJoins
import Derived.Test.YtcploeijeedmdaaBb2
import Derived.Test.YtcploeijeedmdaaVWords
namespace Go.Proofs.Ytcploeijeedmdaa.Open
open Go.RowKit
def I64 (x : Int) : Prop := -9223372036854775808 ≤ x ∧ x ≤ 9223372036854775807
theorem i64_of {x : Int} (h : (Lit.int .i64 x).wf = true) : I64 x := by
 simp [Lit.wf, IntKind.min, IntKind.max, IntKind.signed, IntKind.bits] at h
 unfold I64
 omega
end Go.Proofs.Ytcploeijeedmdaa.Open
