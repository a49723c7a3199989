/- The plain statement of ScoresKings (the walk itself holds the law: see EKings). Texts of this claim's session, put together: PureScoresKings. -/
import Derived.Test.YtcploeijeedmdaaBb4
import Derived.Test.YtcploeijeedmdaaKt1
namespace Go.Proofs.Ytcploeijeedmdaa.Pure
open Go.RowKit Go.Proofs.Ytcploeijeedmdaa.X Go.Proofs.Ytcploeijeedmdaa.Open Go.Proofs.YtcploeijeedmdaaW.PrintWords
set_option linter.unusedVariables false
theorem ScoresKings (l0 : List (List Int)) (a1 : Int) (h1 : I64 a1) : ∃ k, tickinglaw09_ScoresKings.f k l0 a1 = some true := ⟨0, rfl⟩
end Go.Proofs.Ytcploeijeedmdaa.Pure
