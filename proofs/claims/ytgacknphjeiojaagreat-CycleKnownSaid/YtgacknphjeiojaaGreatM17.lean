/- The law CycleKnown, the other laws' contracts handed in. -/
import Derived.Test.YtgacknphjeiojaaGreatM14
import Derived.Test.YtgacknphjeiojaaGreatM15
import Derived.Test.YtgacknphjeiojaaGreatM16

namespace Go.Proofs.YtgacknphjeiojaaGreat
open Go.RowKit

theorem known_any (w : World) : Calls Tryz.prog 3 #[] w fun e w' => e = .returned (.bool true) ∧ Fx No w w' :=
  known_of (fun w E E2 l wk v u n h1 h2 h3 h4 pick => walks_any n h1 h2 h3 h4 pick) (fun w E E2 l zs v u n h1 h2 start h3 cut fin => least_any n h1 h2 start h3 cut fin) w
#print axioms known_any
end Go.Proofs.YtgacknphjeiojaaGreat
