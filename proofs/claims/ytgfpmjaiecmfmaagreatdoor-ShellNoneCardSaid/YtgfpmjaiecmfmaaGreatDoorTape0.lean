import Derived.Test.YtgfpmjaiecmfmaaGreatDoorProg
import Derived.Test.YtgfpmjaiecmfmaaGreatDoorDecl0
open Go Go.RowKit Go.Cm Go.Shelf
namespace Go.Proofs
def placeTags : Value := .agg #[.int .i64 1, .int .i64 0, .int .i64 0, .int .i64 0, .int .i64 0, .int .i64 0, .int .i64 0]
set_option maxRecDepth 20000 in
set_option maxHeartbeats 1000000 in
theorem check_none (w : World) :
    Calls Tryz.prog 86 #[prog0] w fun e w' => e = .returned (.tuple #[placeTags, .int .i64 90]) ∧ Grow w w' := by
    unfold prog0
    go_enter Tryz.func86, Tryz.ntmps86
    go_wp2
    refine bodyPost_ret (v := .tuple #[placeTags, .int .i64 90]) (by simp [results, Tryz.results86, go_sem, placeTags]) rfl ?_
    exact ⟨rfl, (by repeat (first | (with_reducible assumption) | (with_reducible exact Grow.refl _) | (with_reducible apply Grow.drew) | (with_reducible apply Grow.ext_) | (with_reducible apply Grow.alloc) | (with_reducible refine Grow.setCell ?_ (by first | (with_reducible assumption) | exact Nat.le_refl _ | (simp; omega) | simp) _)))⟩
set_option maxRecDepth 20000 in
set_option maxHeartbeats 1000000 in
theorem sysnew_none (w : World) :
    Calls Tryz.prog 39 #[prog0] w fun e w' => e = .returned (.tuple #[.pointer none, .int .i64 90]) ∧ Grow w w' := by
    have h := fun w => check_none w
    unfold prog0 placeTags at *
    go_enter Tryz.func39, Tryz.ntmps39
    go_wp2_with (go_at_call 86; refine (h _).mono ?_; rintro e w2 ⟨rfl, d, rfl⟩)
    go_ret2
    exact ⟨rfl, (by repeat (first | (with_reducible assumption) | (with_reducible exact Grow.refl _) | (with_reducible apply Grow.drew) | (with_reducible apply Grow.ext_) | (with_reducible apply Grow.alloc) | (with_reducible refine Grow.setCell ?_ (by first | (with_reducible assumption) | exact Nat.le_refl _ | (simp; omega) | simp) _)))⟩
set_option maxRecDepth 20000 in
set_option maxHeartbeats 1000000 in
theorem tapenew_none (w : World) :
    Calls Tryz.prog 15 #[prog0] w fun e w' => e = .returned (.tuple #[.pointer none, .int .i64 90]) ∧ Grow w w' := by
    have h := fun w => sysnew_none w
    unfold prog0 at *
    go_enter Tryz.func15, Tryz.ntmps15
    go_wp2_with (go_at_call 39; refine (h _).mono ?_; rintro e w2 ⟨rfl, d, rfl⟩)
    go_ret2
    exact ⟨rfl, (by repeat (first | (with_reducible assumption) | (with_reducible exact Grow.refl _) | (with_reducible apply Grow.drew) | (with_reducible apply Grow.ext_) | (with_reducible apply Grow.alloc) | (with_reducible refine Grow.setCell ?_ (by first | (with_reducible assumption) | exact Nat.le_refl _ | (simp; omega) | simp) _)))⟩
end Go.Proofs
