/- A closed fact about the program, for the claim on ShellNone. -/
import Derived.Test.YtgfpmjaiecmfmaaGreatDoorRows
import Derived.Lay
import Derived.ProofKit
import Derived.Deep.DeepWitnessRowRef
import Derived.JoinedCond
namespace Go.Proofs.YtgfpmjaiecmfmaaGreatDoor
open Go Go.ChangeShapes Go.WideShapes Go.ChangeAt Go.RowKit
theorem wit_i (os : Os) : (World.holding Tryz.prog os ⟨#[], #[], []⟩).layIfaces Tryz.prog Rows.shellNoneRow.laid (World.laidAll Tryz.prog os Rows.shellNoneRow.laid) = true := by kernel_rfl
end Go.Proofs.YtgfpmjaiecmfmaaGreatDoor
