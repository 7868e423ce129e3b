/- The five listed variables are tied to the text of the program: the given tie in parts, so that no one step asks for too much memory. -/
import Derived.Test.YtgfpmjaiecmfmaaGreatDoorTieA
import Derived.Test.YtgfpmjaiecmfmaaGreatDoorTieB
import Derived.Test.YtgfpmjaiecmfmaaGreatDoorTieC
import Derived.Test.YtgfpmjaiecmfmaaGreatDoorLight
import Derived.Test.YtgfpmjaiecmfmaaGreatDoorTieE
import Derived.Test.YtgfpmjaiecmfmaaGreatDoorTieF
import Derived.Test.YtgfpmjaiecmfmaaGreatDoorTieG
import Derived.Test.YtgfpmjaiecmfmaaGreatDoorTieH
import Derived.Test.YtgfpmjaiecmfmaaGreatDoorTieI
namespace Go.Proofs.YtgfpmjaiecmfmaaGreatDoor
open Go
theorem tied : Tryz.prog.laidByTextLater [("strconv.ErrSyntax", Rows.laid_strconv_ErrSyntax), ("strconv.ErrRange", Rows.laid_strconv_ErrRange), ("internal/strconv.uint64pow10", Rows.laid_internal_strconv_uint64pow10), ("math/bits.deBruijn32tab", Rows.laid_math_bits_deBruijn32tab), ("math/bits.deBruijn64tab", Rows.laid_math_bits_deBruijn64tab)] [.sentinel, .sentinel, .data, .data, .data] true :=
  Program.laidByTextLater_by_run 400 8 tie_a tie_b tie_c tie_d tie_e tie_f tie_g tie_h tie_i
theorem row_tie : Rows.shellNoneRow.laidByTextAt .later Tryz.pinned [.sentinel, .sentinel, .data, .data, .data] true :=
  OpenClaim.laidByTextAt_later rfl rfl tied noOwnUnsafe_
end Go.Proofs.YtgfpmjaiecmfmaaGreatDoor
