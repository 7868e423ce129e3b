/- Closed facts about the program, for the claim on ShellNone. -/
import Derived.Test.YtgfpmjaiecmfmaaGreatDoorRows
import Derived.ProofKit
import Derived.JoinedCond
import GoSem.ClaimGoes
namespace Go.Proofs.YtgfpmjaiecmfmaaGreatDoor
open Go
theorem lay_3 : (List.range' 384 128).all (rowFine Tryz.prog) = true := by kernel_rfl
theorem lay_4 : (List.range' 512 128).all (rowFine Tryz.prog) = true := by kernel_rfl
theorem lay_5 : (List.range' 640 84).all (rowFine Tryz.prog) = true := by kernel_rfl
end Go.Proofs.YtgfpmjaiecmfmaaGreatDoor
