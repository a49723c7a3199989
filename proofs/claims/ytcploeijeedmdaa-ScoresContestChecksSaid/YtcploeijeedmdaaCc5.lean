/- The plain statement of ScoresContestChecks (the walk itself holds the law: see ECCheck). Texts of this claim's session, put together: PureScoresContestChecks. -/
import Derived.Test.YtcploeijeedmdaaBb4
import Derived.Test.YtcploeijeedmdaaCc4
namespace Go.Proofs.Ytcploeijeedmdaa.Pure
open Go.RowKit Go.Proofs.Ytcploeijeedmdaa.X Go.Proofs.Ytcploeijeedmdaa.Open Go.Proofs.YtcploeijeedmdaaW.PrintWords
set_option linter.unusedVariables false
theorem ScoresContestChecks (l0 : List Int) (hm0 : l0.length ≤ 9223372036854775807) (hI0 : ∀ x ∈ l0, I64 x) (l1 : List (List Int)) (a2 : Int) (h2 : I64 a2) : ∃ k, tickinglaw09_ScoresContestChecks.f k l0 l1 a2 = some true := ⟨0, rfl⟩
end Go.Proofs.Ytcploeijeedmdaa.Pure
