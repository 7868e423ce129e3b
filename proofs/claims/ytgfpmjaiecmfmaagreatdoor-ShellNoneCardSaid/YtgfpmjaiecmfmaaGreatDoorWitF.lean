/- The closed facts together. -/
import Derived.Test.YtgfpmjaiecmfmaaGreatDoorLight
import Derived.Test.YtgfpmjaiecmfmaaGreatDoorFac1
import Derived.Test.YtgfpmjaiecmfmaaGreatDoorFac2
import Derived.Test.YtgfpmjaiecmfmaaGreatDoorFac5
import Derived.Test.YtgfpmjaiecmfmaaGreatDoorFac6
import Derived.Test.YtgfpmjaiecmfmaaGreatDoorFac7
import Derived.Test.YtgfpmjaiecmfmaaGreatDoorFac8
import Derived.Test.YtgfpmjaiecmfmaaGreatDoorFac12
import Derived.Test.YtgfpmjaiecmfmaaGreatDoorFac13
namespace Go.Proofs.YtgfpmjaiecmfmaaGreatDoor
open Go Go.ChangeShapes Go.WideShapes Go.ChangeAt
theorem both {a b : Bool} (h : a = true) (k : b = true) : (a && b) = true := by rw [h, k]; rfl
set_option maxRecDepth 100000 in
theorem closed_facts : joinedFacts Tryz.prog 3 Tryz.f3 (OpenSpec.ofChange Rows.shellNoneSpec).bare Rows.shellNoneRow = true :=
  (both (both (both (both (both (both (both (both (both (both (both (both (both (both (both (both (both (both (both (both (both (both (both (both (both (both (both (both (both (both (both fact_0 fact_1) fact_2) fact_3) fact_4) fact_5) fact_6) fact_7) fact_8) fact_9) fact_10) fact_11) fact_12) fact_13) fact_14) fact_15) fact_16) fact_17) fact_18) fact_19) fact_20) fact_21) fact_22) fact_23) fact_24) fact_25) fact_26) fact_27) fact_28) fact_29) fact_30) fact_31)
end Go.Proofs.YtgfpmjaiecmfmaaGreatDoor
