/- YtogofkjpbpgneaaGreatDoorE9 -/
import Derived.Test.YtogofkjpbpgneaaGreatDoorE8
set_option linter.unusedSimpArgs false
set_option linter.unusedVariables false
set_option maxRecDepth 20000
namespace Go.Proofs.YtogofkjpbpgneaaGreatDoor
open Go Go.SC Tryz
variable {H:AH} {Bd:Nat} {K:Value->AH->Nat->Prop}
end Go.Proofs.YtogofkjpbpgneaaGreatDoor
