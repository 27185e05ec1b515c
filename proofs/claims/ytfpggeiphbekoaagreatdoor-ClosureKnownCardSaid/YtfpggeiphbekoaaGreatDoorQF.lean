/- The law ClosureKnown. -/
import Derived.Test.YtfpggeiphbekoaaGreatDoorA12
import Derived.Test.YtfpggeiphbekoaaGreatDoorQC
import Derived.Test.YtfpggeiphbekoaaGreatDoorQD
import Derived.Test.YtfpggeiphbekoaaGreatDoorQE
namespace Go.Proofs.YtfpggeiphbekoaaGreatDoor
open Go.RowKit

theorem known_any {w : World} (hT : TabOk w) : Calls Tryz.prog 3 #[] w fun e w' => e = .returned (.bool true) ∧ Fx No w w' :=
  known_of (fun w E l v size m h hT => plays_any size h m hT) (fun w E l v n h hok hT => graphs_any n h hok hT) (fun w E E2 l v u zs n which h hok ho hT => orders_any n h hok ho which hT) hT
#print axioms known_any
end Go.Proofs.YtfpggeiphbekoaaGreatDoor
