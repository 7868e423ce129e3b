/- One of the closed facts by which the five listed variables are tied to the text of the program. -/
import Derived.Test.YtgfpmjaiecmfmaaGreatDoorRows
import Derived.LaidByTextLater
import Derived.SevenTiedAt
namespace Go.Proofs.YtgfpmjaiecmfmaaGreatDoor
open Go
theorem tie_a : Tryz.prog.worded (varsWordLater true) = true := by kernel_rfl
end Go.Proofs.YtgfpmjaiecmfmaaGreatDoor
