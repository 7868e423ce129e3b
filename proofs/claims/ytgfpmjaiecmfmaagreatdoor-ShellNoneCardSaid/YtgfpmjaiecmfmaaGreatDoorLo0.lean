/- Closed facts about the program, for the claim on ShellNone. -/
import Derived.Test.YtgfpmjaiecmfmaaGreatDoorRows
import Derived.ProofKit
import Derived.JoinedCond
import GoSem.ClaimGoes
namespace Go.Proofs.YtgfpmjaiecmfmaaGreatDoor
open Go
theorem lay_size : Tryz.prog.types.size = 724 := by kernel_rfl
theorem lay_0 : (List.range' 0 128).all (rowFine Tryz.prog) = true := by kernel_rfl
theorem lay_1 : (List.range' 128 128).all (rowFine Tryz.prog) = true := by kernel_rfl
theorem lay_2 : (List.range' 256 128).all (rowFine Tryz.prog) = true := by kernel_rfl
end Go.Proofs.YtgfpmjaiecmfmaaGreatDoor
