import Derived.WalkKit
import Derived.WalkLawsBesides
import Derived.Deep.Draws
import Derived.Lib.Hide
/-! Worlds that only grow: the one is the other with more behind it. -/
namespace Go

/-- The blocks of 'd' behind the world's own, and another count of draws. -/
structure Dlt where
  heap : Array Obj
  drawn : Nat
instance : Nonempty Dlt := ⟨⟨#[], 0⟩⟩
def World.ext (w : World) (d : Dlt) : World := { w with heap := w.heap ++ d.heap, drawn := d.drawn }
/-- What an address that is none of 'w''s holds in 'w.ext d'. -/
def World.extCell (w : World) (d : Dlt) (a : Addr) : Option Value := if a.block < w.heap.size then none else (w.ext d).cell? a
theorem World.ext_heap (w : World) (d : Dlt) : (w.ext d).heap = w.heap ++ d.heap := rfl
theorem World.ext_block (w : World) (d : Dlt) {b : Nat} (h : b < w.heap.size) : (w.ext d).heap[b]? = w.heap[b]? := by
  rw [World.ext_heap, Array.getElem?_append_left h]
@[simp, go_sem] theorem World.ext_size (w : World) (d : Dlt) : (w.ext d).heap.size = w.heap.size + d.heap.size := by
  rw [World.ext_heap, Array.size_append]
theorem World.cell?_lt {w : World} {a : Addr} {v : Value} (h : w.cell? a = some v) : a.block < w.heap.size := by
  unfold World.cell? at h
  cases hb : w.heap[a.block]? with
  | none => simp [hb] at h
  | some o => exact (Array.getElem?_eq_some_iff.1 hb).1
@[go_sem] theorem World.ext_cell (w : World) (d : Dlt) (a : Addr) : (w.ext d).cell? a = (w.cell? a).or (w.extCell d a) := by
  by_cases h : a.block < w.heap.size
  · have h1 : (w.ext d).cell? a = w.cell? a := by unfold World.cell?; rw [World.ext_block w d h]
    unfold World.extCell
    rw [if_pos h, h1]
    simp
  · have h1 : w.cell? a = none := by
      cases hc : w.cell? a with
      | none => rfl
      | some v => exact absurd (World.cell?_lt hc) h
    unfold World.extCell
    rw [if_neg h, h1]
    simp
@[go_sem] theorem World.ext_frozen (w : World) (d : Dlt) (a : Addr) (h : (w.cell? a).isSome = true) : (w.ext d).frozen? a = w.frozen? a := by
  obtain ⟨v, hv⟩ := Option.isSome_iff_exists.1 h
  unfold World.frozen?
  rw [World.ext_block w d (World.cell?_lt hv)]

@[go_sem] theorem toList_inj_iff (a b : ByteArray) : (a.toList = b.toList) = (a = b) := by
  rw [ByteArray.toList_eq, ByteArray.toList_eq]
  exact propext ⟨fun h => by
    obtain ⟨⟨l⟩⟩ := a
    obtain ⟨⟨m⟩⟩ := b
    simpa using h, fun h => by rw [h]⟩

theorem byte_ne {x y : UInt8} (h : x ≠ y) {m : Int} (hm : m = (y.toNat : Int)) : ((x.toNat : Int) == m) = false := by
  rw [hm, beq_eq_false_iff_ne]
  intro h'
  exact h (UInt8.toNat_inj.1 (by omega))
theorem byte_eq {x y : UInt8} (h : x = y) {m : Int} (hm : m = (y.toNat : Int)) : ((x.toNat : Int) == m) = true := by rw [hm, h]; simp

/-- The second world is the first one with more behind it. -/
def Grow (w w' : World) : Prop := ∃ d, w' = w.ext d
theorem grow_iff {w w' : World} : Grow w w' ↔ RowKit.Below w.heap.size w w' := by
  constructor
  · rintro ⟨d, rfl⟩
    exact ⟨rfl, rfl, rfl, by simp, fun b hb => World.ext_block w d hb⟩
  · intro hB
    refine ⟨⟨w'.heap.extract w.heap.size w'.heap.size, w'.drawn⟩, ?_⟩
    have he : w'.heap = w.heap ++ w'.heap.extract w.heap.size w'.heap.size := by
      apply Array.ext_getElem?
      intro i
      have hsz := hB.size
      by_cases hi : i < w.heap.size
      · rw [hB.block i hi, Array.getElem?_append_left hi]
      · rw [Array.getElem?_append_right (by omega), Array.getElem?_extract]
        by_cases hi2 : i < w'.heap.size
        · rw [if_pos (by omega)]
          congr 1
          omega
        · rw [if_neg (by omega), Array.getElem?_eq_none (by omega)]
    obtain ⟨h, t, dr, os, out⟩ := w'
    obtain ⟨h1, t1, dr1, os1, out1⟩ := w
    have h1 := hB.os
    have h2 := hB.tape
    have h3 := hB.output
    simp only at h1 h2 h3 he
    subst h1; subst h2; subst h3
    show World.mk h _ dr _ _ = World.mk (h1 ++ h.extract h1.size h.size) _ dr _ _
    rw [← he]
theorem Grow.refl (w : World) : Grow w w := grow_iff.2 (RowKit.Below.refl _ w)
theorem Grow.size {w w' : World} (h : Grow w w') : w.heap.size ≤ w'.heap.size := (grow_iff.1 h).size
theorem Grow.trans {a b c : World} (h : Grow a b) (k : Grow b c) : Grow a c := grow_iff.2 ((grow_iff.1 h).trans ((grow_iff.1 k).mono h.size))
theorem Grow.ext (w : World) (d : Dlt) : Grow w (w.ext d) := ⟨d, rfl⟩
theorem Grow.ext_ {a w : World} (h : Grow a w) (d : Dlt) : Grow a (w.ext d) := h.trans (Grow.ext w d)
theorem Grow.drew {a w : World} (h : Grow a w) : Grow a w.drew := grow_iff.2 (grow_iff.1 h).drew
theorem Grow.drewN {a w : World} (h : Grow a w) (n : Nat) : Grow a (w.drewN n) :=
  grow_iff.2 ⟨(grow_iff.1 h).os, (grow_iff.1 h).tape, (grow_iff.1 h).output, (grow_iff.1 h).size, (grow_iff.1 h).block⟩
theorem Grow.alloc {a w : World} (h : Grow a w) (o : Obj) : Grow a (w.alloc o) := grow_iff.2 ((grow_iff.1 h).alloc h.size o)
theorem Grow.setCell {a w : World} (h : Grow a w) {p : Addr} (hp : a.heap.size ≤ p.block) (v : Value) : Grow a (w.setCell p v) := grow_iff.2 ((grow_iff.1 h).setCell hp v)
theorem Grow.block {w w' : World} (h : Grow w w') {b : Nat} (hb : b < w.heap.size) : w'.heap[b]? = w.heap[b]? := (grow_iff.1 h).block b hb
theorem Grow.cell {w w' : World} (h : Grow w w') {a : Addr} {v : Value} (hc : w.cell? a = some v) : w'.cell? a = some v := by
  obtain ⟨d, rfl⟩ := h
  rw [World.ext_cell, hc]
  rfl
theorem Grow.of_below {w w' : World} (h : RowKit.Below w.heap.size w w') : Grow w w' := grow_iff.2 h
end Go
