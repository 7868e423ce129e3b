import Derived.Test.YtgfpmjaiecmfmaaGreatDoorProg
import Derived.Test.YtgfpmjaiecmfmaaGreatDoorWords
import Derived.Test.YtgfpmjaiecmfmaaGreatDoorMaps
open Go Go.RowKit Go.Cm
namespace Go.Proofs
theorem tcmds_u : Tryz.prog.underlying 35 = some (.map 9 42) := by kernel_rfl
theorem tstr_u : Tryz.prog.underlying 9 = some .string := by kernel_rfl
set_option maxRecDepth 20000 in
set_option maxHeartbeats 1000000 in
theorem all_spec (p : Option Addr) (w : World) :
    Calls Tryz.prog 12 #[.pointer p] w fun e w' => (∃ b m, e = .returned (.map (some b)) ∧ MapR w' b m ∧ w.heap.size ≤ b) ∧ Grow w w' := by
    have hmm := @run_makeMap Tryz.prog
    go_enter Tryz.func12, Tryz.ntmps12
    have hm := MapR.new w
    have hg : Grow w (w.alloc (.map #[] 0)) := (Grow.refl w).alloc _
    go_wp2_with (refine wpList_put_str rfl (.inr rfl) tcmds_u tstr_u rfl rfl hm ?_; clear hm; intro w2 hm hgr; replace hg := hg.grown hgr (fun k hk => by cases hk; omega); clear hgr)
    go_ret
    exact ⟨⟨_, _, rfl, hm, Nat.le_refl _⟩, hg⟩
/-- A shell at block bs: no program yet (or what it has), its tape, whether it is declaring, the text, its commands. -/
def ShellR (w : World) (bs : Nat) (dec : Bool) (text : Value) : Prop :=
  ∃ b m, Blk w bs 37 [.slice none 0 0, .slice none 0 0, .pointer none, .bool dec, text, .map (some b)] ∧ MapR w b m ∧ b ≠ bs
set_option maxRecDepth 20000 in
set_option maxHeartbeats 1000000 in
theorem new_spec (w : World) :
    Calls Tryz.prog 6 #[] w fun e w' => (∃ bs, e = .returned (.pointer (some ⟨bs, 0, none⟩)) ∧ ShellR w' bs false (.slice none 0 0) ∧ w.heap.size ≤ bs) ∧ Grow w w' := by
    go_enter Tryz.func6, Tryz.ntmps6
    go_wp2_with fail
    refine (all_spec _ _).mono ?_
    rintro e w2 ⟨⟨b, m, rfl, hm, hb⟩, hg⟩
    have B := (Blk.new w 37 [.slice none 0 0, .slice none 0 0, .pointer none, .bool false, .slice none 0 0, .map none]).grow hg
    have c5 := B.cell (j := 5) rfl
    have f5 := B.fr 5
    have hg' := ((Grow.refl w).alloc _).trans hg
    simp only [World.size_alloc] at hb
    go_wp2
    go_ret
    refine ⟨⟨_, rfl, ⟨b, m, B.set 5 _, ?_, by omega⟩, Nat.le_refl _⟩, hg'.setCell (by simp) _⟩
    obtain ⟨es, c, hb', he⟩ := hm
    exact ⟨es, c, by rw [Below.heap_setCell _ _ _ _ (by show b ≠ w.heap.size; omega)]; exact hb', he⟩
end Go.Proofs
