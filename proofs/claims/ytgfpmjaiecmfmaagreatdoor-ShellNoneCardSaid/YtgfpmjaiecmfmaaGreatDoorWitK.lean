/- A closed fact about the program, for the claim on ShellNone: no body starts a goroutine. -/
import Derived.Test.YtgfpmjaiecmfmaaGreatDoorGoe
import Derived.Test.YtgfpmjaiecmfmaaGreatDoorCards
namespace Go.Proofs.YtgfpmjaiecmfmaaGreatDoor
open Go
theorem goes_none {P : Program} (h : P.funcs.any Func.goes = false) (f : FuncId) : P.goes f = false := by
  unfold Program.goes
  rw [h, Bool.and_false, Bool.or_false]
  refine List.any_eq_false.2 fun g _ => ?_
  cases hg : P.funcs[g]? with
  | none => simp
  | some fn =>
    have hm : fn ∈ P.funcs := Array.mem_of_getElem? hg
    have := Array.any_eq_false'.1 h fn hm
    simpa using this
theorem goes_is : false = Rows.shellNoneRow.goesBy Tryz.prog := by
  have hn := fun f => goes_none none_goes f
  unfold OpenClaim.goesBy Program.goesAt Program.goesFrom
  cases hf : Tryz.prog.funcNamed Rows.shellNoneRow.func with
  | none => rfl
  | some f => rw [Option.any_some, hn f]; rfl
end Go.Proofs.YtgfpmjaiecmfmaaGreatDoor
