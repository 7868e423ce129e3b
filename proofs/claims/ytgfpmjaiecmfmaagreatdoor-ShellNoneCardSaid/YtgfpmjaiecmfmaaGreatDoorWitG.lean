/- A closed fact about the program, for the claim on ShellNone. -/
import Derived.Test.YtgfpmjaiecmfmaaGreatDoorCards
import Derived.ProofKit
import Derived.JoinedCond
namespace Go.Proofs.YtgfpmjaiecmfmaaGreatDoor
open Go Go.ChangeShapes Go.WideShapes Go.ChangeAt Go.RowKit
theorem own : ownKnob Tryz.prog.godebug = none := by kernel_rfl
theorem named_root : Tryz.prog.funcNamed "chordmail/chordmaillaw28.ShellNone" = some 3 := by kernel_rfl
end Go.Proofs.YtgfpmjaiecmfmaaGreatDoor
