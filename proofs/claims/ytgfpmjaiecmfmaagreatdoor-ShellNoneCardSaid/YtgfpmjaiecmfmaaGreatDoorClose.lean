/- ShellNone's statement: for every input (there is none) it answers true: the walk, lifted to the row, and the card. No condition. -/
import Derived.Test.YtgfpmjaiecmfmaaGreatDoorCards
import Derived.Test.YtgfpmjaiecmfmaaGreatDoorTieZ
import Derived.Test.YtgfpmjaiecmfmaaGreatDoorWitA
import Derived.Test.YtgfpmjaiecmfmaaGreatDoorWitB
import Derived.Test.YtgfpmjaiecmfmaaGreatDoorLight
import Derived.Test.YtgfpmjaiecmfmaaGreatDoorWitD
import Derived.Test.YtgfpmjaiecmfmaaGreatDoorWitE
import Derived.Test.YtgfpmjaiecmfmaaGreatDoorWitF
import Derived.Test.YtgfpmjaiecmfmaaGreatDoorWitG
import Derived.Test.YtgfpmjaiecmfmaaGreatDoorWitK
import Derived.Test.YtgfpmjaiecmfmaaGreatDoorNone
import Derived.Test.YtgfpmjaiecmfmaaGreatDoorPost
import Derived.WalkKit
import Derived.ProofKit
import Derived.OpenShut
import Derived.JoinedCond
import Derived.Deep.DeepHandedRow
import Derived.Lib.LaidTab
import Derived.Stop.LaidErr
namespace Go.Proofs.YtgfpmjaiecmfmaaGreatDoor
open Go Go.ChangeShapes Go.WideShapes Go.ChangeAt Go.RowKit Go.Cm
theorem gTab : Tryz.prog.globalNamed "internal/strconv.uint64pow10" = some 2 := by kernel_rfl
theorem gTabType : (Tryz.prog.globals[2]?).map (·.type) = some 377 := by kernel_rfl
theorem arr_u : Tryz.prog.underlying 377 = some (.array 20 101) := by kernel_rfl
theorem u64_u : Tryz.prog.underlying 101 = some (.int .u64) := by kernel_rfl
theorem cellsArr : Tryz.prog.cellsOf 377 = 20 := by kernel_rfl
theorem cellsU64 : Tryz.prog.cellsOf 101 = 1 := by kernel_rfl
theorem plain_list : (Rows.shellNoneRow.laid.all fun x => x.2.handleName?.isNone) = true := by kernel_rfl
/-- What the row's list gives: the table's cells. -/
theorem table {W : World} (h : laidMetH Tryz.prog Rows.shellNoneRow.laid W) : Tabs W := by
  rw [MakeChecks.laidMetH_plain _ _ _ plain_list] at h
  exact Lib.tabIs_of_head (rest := [("math/bits.deBruijn32tab", Rows.laid_math_bits_deBruijn32tab), ("math/bits.deBruijn64tab", Rows.laid_math_bits_deBruijn64tab)]) gTab gTabType arr_u u64_u cellsU64 cellsArr (laidMet.tail (laidMet.tail h))
set_option maxRecDepth 100000 in
theorem contract (H : Type) (enc : TypeId × Value → H) (W : World) (base : Nat) (args : Array Value) (ds gs : List (DataW H)) (before : List MemPlace)
    (hval : ∀ (j : Nat) t v, Tryz.f3.params[j]? = some t → args[j]? = some v → Value.okWide Tryz.prog W .any base t v)
    (hW : DataW.Whole enc Tryz.prog Tryz.f3.params.toList Rows.shellNoneSpec.vars false W args.toList ds gs before) (hL : laidMetH Tryz.prog Rows.shellNoneRow.laid W) :
    Calls Tryz.prog 3 args W fun e W' => ∃ v, e = .returned v ∧ Rows.shellNoneSpec.post enc Tryz.prog Tryz.f3 false true false false W args v W' := by
  have hW' := hW
  obtain ⟨p, q, hA0, hV, rfl, hfz, hnd⟩ := hW
  have hA : DataW.TrodAll enc Tryz.prog W 0 (fun _ => true) true Tryz.f3.params.toList args.toList ds p := hA0
  rw [Tryz.params3] at hA hval
  obtain ⟨hargs, rfl, rfl⟩ := trodAll_nil hA
  obtain rfl : args = #[] := by cases args; simp_all
  obtain ⟨rfl, rfl⟩ := trodVars_none hV
  clear hA0
  simp only [List.append_nil] at hW'
  refine (none_walk W (table hL)).mono fun e W' ⟨he, hg⟩ => ?_
  subst he
  exact ⟨_, rfl, post_of_grow (pa := []) (pv := []) hW' (fun _ _ _ => trodAll_cons_mk (shut_bool Tryz.underlying4 _) trodAll_mk0) (fun _ _ => trodAll_mk0) (fun _ _ => rfl) rfl hg
    (ok_one (by kernel_rfl) rfl (okWide_bool_mk Tryz.underlying4 _))⟩
theorem laid_met (os : Os) : laidMetH Tryz.prog Rows.shellNoneRow.laid ((World.laidAll Tryz.prog os Rows.shellNoneRow.laid).forCall (fun _ _ => 0) ⟨#[], #[], []⟩).memory := by
  rw [MakeChecks.laidMetH_plain _ _ _ plain_list]
  exact laidMet_laidAll _ (wit_f os) (wit_i os)
theorem reads (os : Os) {H : Type} (enc : TypeId × Value → H) : ∃ places, DataW.whole enc Tryz.prog ((World.laidAll Tryz.prog os Rows.shellNoneRow.laid).forCall (fun _ _ => 0) ⟨#[], #[], []⟩).memory Tryz.f3.params.toList Rows.shellNoneSpec.vars false (#[] : Array Value).toList 8 = some ([], [], places) :=
  ⟨[], by kernel_rfl⟩
set_option maxRecDepth 100000 in
theorem lifted (os : Os) (started : os.Started) (H : Type) (enc : TypeId × Value → H) (F : Stop.Interp) :
    ReturnsInHanded {} Tryz.checked os 3 .any ((OpenSpec.ofChange Rows.shellNoneSpec).preRow enc Tryz.prog Tryz.f3 Rows.shellNoneRow.domain false Rows.shellNoneRow.laid) (((OpenSpec.ofChange Rows.shellNoneSpec).at F).post enc Tryz.prog Tryz.f3 false true false false) := by
  obtain ⟨places, hx⟩ := reads os enc
  refine returnsInHanded_of_row (C := Tryz.checked) (s := OpenSpec.ofChange Rows.shellNoneSpec) own started (by kernel_rfl) Tryz.func3
    (witness_row_atRef (enc := enc) (C := Tryz.checked) false (World.laidAll Tryz.prog os Rows.shellNoneRow.laid) #[] (World.laidAll_os _ _ _) (wit_v os) (wit_r os) (wit_ok os)
      (OpenSpec.preRow_of_cond 8 hx (by kernel_rfl) (fun k hk => by cases hk) (by kernel_rfl) (laid_met os))) ?_
  intro W base args ds gs before hval hW _ _ _ hL _ _
  exact contract H enc W base args ds gs before hval hW hL
theorem said : Rows.ShellNoneSaid :=
  OpenClaim.holds_of_cond 3 Tryz.f3 rfl rfl rfl rfl rfl rfl rfl ⟨rfl, rfl, rfl, rfl, rfl⟩ rfl rfl rfl rfl rfl named_root Tryz.func3 closed_facts
    (of_decide_eq_true (by kernel_rfl)) (by unfold Func.isWrapper; first | (rw [if_pos (by decide +kernel)]; kernel_rfl) | (rw [if_neg (by decide +kernel)]; exact ⟨rfl, rfl⟩))
    (fun os started H enc _ F => by rw [OpenClaim.pre_eq_preRow]; exact lifted os started H enc F)
theorem plain (f : FuncId) (fn : Func) (hf : Tryz.pinned.checked.prog.funcNamed "chordmail/chordmaillaw28.ShellNone" = some f) (hfn : Tryz.pinned.checked.prog.funcs[f]? = some fn) :
    true = Tryz.pinned.checked.prog.looks [] ∧ ∀ (j : Nat) t, fn.params[j]? = some t → Tryz.pinned.checked.prog.wantsStandIn t = false := by
  obtain rfl : f = 3 := (Option.some.inj (named_root.symm.trans hf)).symm
  obtain rfl : fn = Tryz.f3 := (Option.some.inj (Tryz.func3.symm.trans hfn)).symm
  refine ⟨looks_is, fun j t ht => ?_⟩
  rw [Tryz.params3] at ht
  simp at ht
theorem shellNone_holds : Rows.ShellNoneCardSaid :=
  Claim7.holds_tied_plain_at .later [] _ _ _ _ said (fun _ h => by cases h) wf_text (fun _ h => by cases h) row_tie rfl ⟨rfl, rfl⟩ main_is rfl plain goes_is
end Go.Proofs.YtgfpmjaiecmfmaaGreatDoor
