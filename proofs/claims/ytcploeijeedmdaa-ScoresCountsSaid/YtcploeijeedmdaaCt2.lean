/- The plain statement of ScoresCounts (the walk itself holds the law: see ECounts). Texts of this claim's session, put together: PureScoresCounts. -/
import Derived.Test.YtcploeijeedmdaaBa3
import Derived.Test.YtcploeijeedmdaaCt1
namespace Go.Proofs.Ytcploeijeedmdaa.Pure
open Go.RowKit Go.Proofs.Ytcploeijeedmdaa.X Go.Proofs.Ytcploeijeedmdaa.Open Go.Proofs.YtcploeijeedmdaaW.PrintWords
set_option linter.unusedVariables false
theorem ScoresCounts (l0 : List Int) (hm0 : l0.length ≤ 9223372036854775807) (hI0 : ∀ x ∈ l0, I64 x) (a1 : Int) (h1 : I64 a1) : ∃ k, tickinglaw09_ScoresCounts.f k l0 a1 = some true := ⟨0, rfl⟩
end Go.Proofs.Ytcploeijeedmdaa.Pure
