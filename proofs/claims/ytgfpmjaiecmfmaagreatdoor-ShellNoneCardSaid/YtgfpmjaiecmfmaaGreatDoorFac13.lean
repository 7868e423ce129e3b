/- Closed facts about the program, for the claim on ShellNone. -/
import Derived.Test.YtgfpmjaiecmfmaaGreatDoorRows
import Derived.ProofKit
import Derived.JoinedCond
namespace Go.Proofs.YtgfpmjaiecmfmaaGreatDoor
open Go Go.ChangeShapes Go.WideShapes Go.ChangeAt
theorem fact_25 : (Tryz.prog.mayEnter) = true := by kernel_rfl
end Go.Proofs.YtgfpmjaiecmfmaaGreatDoor
