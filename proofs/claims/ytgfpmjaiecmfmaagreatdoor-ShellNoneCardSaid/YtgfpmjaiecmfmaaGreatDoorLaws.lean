import Derived.WalkKit
/-! Rules of the walk that the kit's set lacks. -/
namespace Go
namespace Cm
@[go_sem] theorem run_store_float {P : Program} {w : World} (a : Addr) (m : Mode) (k : FloatKind) (x) : (store a (.float k x) m).run P w = stored P w a (.float k x) m := run_store P w a _ m rfl
def allocCell (w : World) (o : Obj) (a : Addr) : Option Value := if a.block = w.heap.size then (w.alloc o).cell? a else none
theorem cell?_none_of_ge (w : World) (a : Addr) (h : w.heap.size ≤ a.block) : w.cell? a = none := by
  simp [World.cell?, Array.getElem?_eq_none h]
@[go_sem low] theorem cell?_alloc_or (w : World) (o : Obj) (a : Addr) : (w.alloc o).cell? a = (w.cell? a).or (allocCell w o a) := by
  unfold allocCell
  split
  · rename_i h
    rw [cell?_none_of_ge w a (by omega)]; simp
  · rename_i h
    rw [World.cell?_alloc_old w o a h]; simp
@[go_sem low] theorem frozen?_alloc_some (w : World) (o : Obj) (a : Addr) (h : (w.cell? a).isSome = true) : (w.alloc o).frozen? a = w.frozen? a := by
  refine World.frozen?_alloc_old w o a fun e => ?_
  rw [cell?_none_of_ge w a (by omega)] at h
  cases h
@[go_sem low] theorem cell?_setCell_map (w : World) (a : Addr) (v : Value) : (w.setCell a v).cell? a = (w.cell? a).map fun _ => v := by
  cases h : w.cell? a with
  | some u => rw [World.cell?_setCell_same' w a v (by rw [h]; rfl)]; rfl
  | none =>
    simp only [World.cell?, World.setCell] at h ⊢
    rw [Array.getElem?_modify]
    simp
    cases hb : w.heap[a.block]? with
    | none => simp
    | some o =>
      rw [hb] at h
      cases o <;> simp_all
end Cm
end Go
