/- The plain statement of ScoresCodes (the walk itself holds the law: see ECodes). Texts of this claim's session, put together: PureScoresCodes. -/
import Derived.Test.YtcploeijeedmdaaBb4
import Derived.Test.YtcploeijeedmdaaCd3
namespace Go.Proofs.Ytcploeijeedmdaa.Pure
open Go.RowKit Go.Proofs.Ytcploeijeedmdaa.X Go.Proofs.Ytcploeijeedmdaa.Open Go.Proofs.YtcploeijeedmdaaW.PrintWords
set_option linter.unusedVariables false
theorem ScoresCodes (a0 : Int) (h0 : I64 a0) (l1 : List Int) (hm1 : l1.length ≤ 9223372036854775807) (hI1 : ∀ x ∈ l1, I64 x) : ∃ k, tickinglaw09_ScoresCodes.f k a0 l1 = some true := ⟨0, rfl⟩
end Go.Proofs.Ytcploeijeedmdaa.Pure
