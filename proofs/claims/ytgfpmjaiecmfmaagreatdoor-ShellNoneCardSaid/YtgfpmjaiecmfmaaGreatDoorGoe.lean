/- Closed facts about the program, for the claim on ShellNone. -/
import Derived.Test.YtgfpmjaiecmfmaaGreatDoorRows
import Derived.ProofKit
import Derived.JoinedCond
import GoSem.ClaimGoes
namespace Go.Proofs.YtgfpmjaiecmfmaaGreatDoor
open Go
theorem none_goes : Tryz.prog.funcs.any Func.goes = false := by kernel_rfl
end Go.Proofs.YtgfpmjaiecmfmaaGreatDoor
