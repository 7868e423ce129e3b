/- Closed facts about the program, for the claim on ShellNone. -/
import Derived.Test.YtgfpmjaiecmfmaaGreatDoorRows
import Derived.ProofKit
import Derived.JoinedCond
namespace Go.Proofs.YtgfpmjaiecmfmaaGreatDoor
open Go Go.ChangeShapes Go.WideShapes Go.ChangeAt
theorem fact_23 : (Rows.shellNoneRow.shortTexts.isNone) = true := by kernel_rfl
theorem fact_24 : (Tryz.prog.stopsHeard) = true := by kernel_rfl
end Go.Proofs.YtgfpmjaiecmfmaaGreatDoor
