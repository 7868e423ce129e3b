/- Closed facts about the program, for the claim on ShellNone. -/
import Derived.Test.YtgfpmjaiecmfmaaGreatDoorRows
import Derived.LaidByTextLater
import Derived.SevenTiedAt
import Derived.ProofKit
import Derived.JoinedCond
import Derived.Lay
import Derived.Deep.DeepWitnessRowRef
import Derived.Test.YtgfpmjaiecmfmaaGreatDoorCards
namespace Go.Proofs.YtgfpmjaiecmfmaaGreatDoor
open Go Go.ChangeShapes Go.WideShapes Go.ChangeAt Go.RowKit
theorem tie_d : ([("strconv.ErrSyntax", Rows.laid_strconv_ErrSyntax), ("strconv.ErrRange", Rows.laid_strconv_ErrRange), ("internal/strconv.uint64pow10", Rows.laid_internal_strconv_uint64pow10), ("math/bits.deBruijn32tab", Rows.laid_math_bits_deBruijn32tab), ("math/bits.deBruijn64tab", Rows.laid_math_bits_deBruijn64tab)] : List (String × DataW Unit)).map (fun x => Tryz.prog.kindOfLater x.1) = ([.sentinel, .sentinel, .data, .data, .data] : List LaidKind).map some := by kernel_rfl
theorem noOwnUnsafe_ : Tryz.pinned.checked.prog.headLifts.contains "ownunsafe" = false := by kernel_rfl
theorem fact_0 : (Rows.shellNoneRow.wf (OpenSpec.ofChange ((OpenSpec.ofChange Rows.shellNoneSpec).bare))) = true := by kernel_rfl
theorem fact_3 : (Tryz.f3.params.all (Tryz.prog.readableRec ·)) = true := by kernel_rfl
theorem fact_4 : (namedTie Tryz.prog Rows.shellNoneRow.named ((OpenSpec.ofChange Rows.shellNoneSpec).bare).vars) = true := by kernel_rfl
theorem fact_5 : ((Rows.shellNoneRow.stops == [])) = true := by kernel_rfl
theorem fact_6 : ((Tryz.prog.stops == [])) = true := by kernel_rfl
theorem fact_7 : ((Rows.shellNoneRow.knobs == [])) = true := by kernel_rfl
theorem fact_8 : ((Tryz.prog.stopKnobs == [])) = true := by kernel_rfl
theorem fact_13 : ((Rows.shellNoneRow.maps == (Tryz.f3.params.toList ++ ((OpenSpec.ofChange Rows.shellNoneSpec).bare).plain.varTypes Tryz.prog).any (Tryz.prog.mapsRec ·))) = true := by kernel_rfl
theorem fact_14 : ((Rows.shellNoneRow.ifaces == (Tryz.f3.params.toList ++ ((OpenSpec.ofChange Rows.shellNoneSpec).bare).plain.varTypes Tryz.prog).any (Tryz.prog.ifacesRec ·))) = true := by kernel_rfl
theorem fact_15 : ((Rows.shellNoneRow.mapsOut == Tryz.prog.mapsAmong Tryz.f3.resultTypes.toList)) = true := by kernel_rfl
theorem fact_16 : ((Rows.shellNoneRow.loops == (Tryz.f3.params.toList ++ ((OpenSpec.ofChange Rows.shellNoneSpec).bare).plain.varTypes Tryz.prog).any (Tryz.prog.loopsFrom ·))) = true := by kernel_rfl
theorem fact_17 : ((Rows.shellNoneRow.wideKeys == (Tryz.f3.params.toList ++ ((OpenSpec.ofChange Rows.shellNoneSpec).bare).plain.varTypes Tryz.prog ++ Tryz.f3.resultTypes.toList).any (Tryz.prog.wideKeysFrom ·))) = true := by kernel_rfl
theorem fact_18 : (((OpenSpec.ofChange Rows.shellNoneSpec).bare).vars.all (Tryz.prog.varReadable ·)) = true := by kernel_rfl
theorem fact_19 : (Tryz.f3.resultTypes.all (fun t => Tryz.prog.readableRec t && decide (t < Tryz.prog.types.size))) = true := by kernel_rfl
theorem fact_20 : ((Rows.shellNoneRow.ifacesOut == Tryz.f3.resultTypes.toList.any (Tryz.prog.ifacesRec ·))) = true := by kernel_rfl
theorem fact_21 : ((Rows.shellNoneRow.loopsOut == Tryz.f3.resultTypes.toList.any (Tryz.prog.loopsFrom ·))) = true := by kernel_rfl
theorem fact_22 : ((Rows.shellNoneRow.plainKeys == Tryz.prog.plainKeys)) = true := by kernel_rfl
theorem fact_26 : ((Rows.shellNoneRow.lifted == Tryz.prog.liftsFinal)) = true := by kernel_rfl
theorem fact_27 : ((Tryz.prog.make == some Rows.shellNoneRow.make)) = true := by kernel_rfl
theorem fact_28 : ((Rows.shellNoneRow.kinds == (if Rows.shellNoneRow.domain.isEmpty then [] else Tryz.f3.params.toList.map fun t => match Tryz.prog.underlying t with | some (.int k) => some k | _ => none))) = true := by kernel_rfl
theorem fact_29 : ((Rows.shellNoneRow.pinned == Rows.shellNoneRow.pinnedBy)) = true := by kernel_rfl
theorem fact_30 : ((Rows.shellNoneRow.veiled == (Tryz.f3.params.toList ++ ((OpenSpec.ofChange Rows.shellNoneSpec).bare).plain.varTypes Tryz.prog ++ Tryz.f3.resultTypes.toList).any (Tryz.prog.veiledRec ·))) = true := by kernel_rfl
theorem fact_31 : (Rows.shellNoneRow.veiledFits Tryz.prog Tryz.f3.params.toList (Tryz.f3.params.toList ++ ((OpenSpec.ofChange Rows.shellNoneSpec).bare).plain.varTypes Tryz.prog ++ Tryz.f3.resultTypes.toList)) = true := by kernel_rfl
theorem lay_g : Tryz.prog.globals.all (fun g => decide (g.type < Tryz.prog.types.size)) = true := by kernel_rfl
theorem wit_ok (os : Os) : Input.okWideB Tryz.prog ((World.laidAll Tryz.prog os Rows.shellNoneRow.laid).forCall (fun _ _ => 0) ⟨#[], #[], []⟩) 3 ⟨#[], #[], []⟩ = true := by kernel_rfl
theorem main_is : Tryz.prog.mainIs = some (Rows.shellNoneCard.stood.harness.1, Rows.shellNoneCard.stood.harness.2.toList) := by kernel_rfl
theorem looks_is : true = Tryz.prog.looks [] := by kernel_rfl
theorem wf_text : Rows.shellNoneRow.wfByText (OpenSpec.ofChange Rows.shellNoneSpec) = true := by kernel_rfl
end Go.Proofs.YtgfpmjaiecmfmaaGreatDoor
