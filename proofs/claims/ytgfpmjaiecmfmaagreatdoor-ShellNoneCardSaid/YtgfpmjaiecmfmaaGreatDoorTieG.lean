/- One of the closed facts by which the five listed variables are tied to the text of the program. -/
import Derived.Test.YtgfpmjaiecmfmaaGreatDoorRows
import Derived.LaidByTextLater
import Derived.SevenTiedAt
namespace Go.Proofs.YtgfpmjaiecmfmaaGreatDoor
open Go
theorem tie_g : ∀ os tape, varsDone Tryz.prog 400 (varsId Tryz.prog) os tape = true := fun _ _ => by kernel_rfl
end Go.Proofs.YtgfpmjaiecmfmaaGreatDoor
