import Derived.Defers
import Derived.Recover
import Derived.Test.YtgfpmjaiecmfmaaGreatDoorProg
import Derived.Test.YtgfpmjaiecmfmaaGreatDoorLex0
import Derived.Test.YtgfpmjaiecmfmaaGreatDoorLaws
open Go Go.RowKit Go.Cm Go.Shelf
namespace Go.Proofs
def prog0 : Value := .agg #[.slice none 0 0, .slice none 0 0]
set_option maxRecDepth 20000 in
set_option maxHeartbeats 1000000 in
theorem program_none (b : Nat) (w : World) (c0 : w.cell? ⟨b, 0, none⟩ = some (.slice none 0 0)) (c1 : w.cell? ⟨b, 1, none⟩ = some (.int .i64 0)) :
    Calls Tryz.prog 35 #[.pointer (some ⟨b, 0, none⟩)] w fun e w' => e = .returned prog0 ∧ Grow w w' := by
    go_enter Tryz.func35, Tryz.ntmps35
    go_wp2
    go_loop [3] (fun x => x = undef) (fun _ => 0)
    case atStart => rfl
    case round =>
      subst hrel
      go_wp2
      refine Cm.wp_region_canon [] [0, 1, 2, 3, 4, 5, 6, 7, 8, 9] (by kernel_rfl) (by kernel_rfl) (by intro _ _ d _ _ h; cases d <;> exact h) ?_
      (repeat (first | (refine Cm.canon_pre rfl rfl rfl (fun K hK => ?_); go_simp; refine hK _ ?_; clear hK K) | (refine Cm.canon_load rfl rfl (fun K hK => ?_); go_simp; refine hK _ ?_; clear hK K)))
      refine Cm.canon_nil ?_
      go_wp2
      refine bodyPost_ret (v := prog0) (by simp [results, Tryz.results35, go_sem, prog0]) rfl ?_
      exact ⟨rfl, (by repeat (first | assumption | exact Grow.ext _ _ | exact Grow.refl _ | apply Grow.alloc | apply Grow.drew | apply Grow.drewN | apply Grow.ext_))⟩
set_option maxHeartbeats 1000000 in
theorem read1_idle (p q r : Addr) (w : World) :
    CallsD Tryz.prog 71 #[.pointer (some p), .pointer (some q), .pointer (some r)] .returning w fun e u' w' => e = .returned (.tuple #[]) ∧ u' = .returning ∧ w' = w := by
    refine callsD_of_wpS Tryz.func71 rfl fun c₀ cs hu => ?_
    apply wpS_seq
    apply wpS_region
    simp [wpOpsS, go_sem, recoverD, hu, Tryz.func71, Tryz.ntmps71, Exit.thenS]
    refine wpS_of_wp ?_
    go_wp2
    cases c₀
    simp_all [bodyPostS, results, Tryz.results71]
set_option maxRecDepth 20000 in
set_option maxHeartbeats 1000000 in
theorem read_none (w : World) :
    Calls Tryz.prog 34 #[.slice none 0 0, .func (.func 35) #[] #[]] w fun e w' => e = .returned (.tuple #[prog0, .int .i64 0, .int .i64 0]) ∧ Grow w w' := by
    have hmf : ∀ (fn : Fn) (first cap : Array Value) (w : World), (Instr.makeFunc fn first cap).run Tryz.prog w = .ok (.func fn first cap) w := fun _ _ _ _ => rfl
    go_enter_defers Tryz.func34, Tryz.ntmps34
    go_wp2_with (first | (go_at_call 70; refine (scan_none none 0 _).mono ?_; rintro e w2 ⟨rfl, d, rfl⟩) | (go_at_call 35; refine (program_none _ _ ?_ ?_).mono ?_; (· simp [go_sem]); (· simp [go_sem]); rintro e w3 ⟨rfl, d2, rfl⟩; unfold prog0))
    go_region
    go_wp2
    refine leaves_cons (f := 71) (args := #[.pointer (some ⟨w.heap.size, 0, none⟩), .pointer (some ⟨w.heap.size + 1, 0, none⟩), .pointer (some ⟨w.heap.size + 1 + 1, 0, none⟩)]) (by simp) (by simp [go_sem]) ?_
    refine (read1_idle _ _ _ _).mono ?_
    rintro e u' w'' ⟨rfl, rfl, rfl⟩
    simp [Leaves, settle, results, Tryz.results34, go_sem]
    exact ⟨rfl, (by repeat (first | (with_reducible assumption) | (with_reducible exact Grow.refl _) | (with_reducible apply Grow.drew) | (with_reducible apply Grow.ext_) | (with_reducible apply Grow.alloc) | (with_reducible refine Grow.setCell ?_ (by first | (with_reducible assumption) | exact Nat.le_refl _ | (simp; omega) | simp) _)))⟩
set_option maxRecDepth 20000 in
set_option maxHeartbeats 1000000 in
theorem parse_none (w : World) :
    Calls Tryz.prog 13 #[.slice none 0 0] w fun e w' => e = .returned (.tuple #[prog0, .int .i64 0, .int .i64 0]) ∧ Grow w w' := by
    go_enter Tryz.func13, Tryz.ntmps13
    go_wp2_with (go_at_call 34; refine (read_none _).mono ?_; rintro e w2 ⟨rfl, d, rfl⟩; unfold prog0)
    refine bodyPost_ret (v := .tuple #[prog0, .int .i64 0, .int .i64 0]) (by simp [results, Tryz.results13, go_sem, prog0]) rfl ?_
    exact ⟨rfl, (by repeat (first | (with_reducible assumption) | (with_reducible exact Grow.refl _) | (with_reducible apply Grow.drew) | (with_reducible apply Grow.ext_) | (with_reducible apply Grow.alloc) | (with_reducible refine Grow.setCell ?_ (by first | (with_reducible assumption) | exact Nat.le_refl _ | (simp; omega) | simp) _)))⟩
end Go.Proofs
