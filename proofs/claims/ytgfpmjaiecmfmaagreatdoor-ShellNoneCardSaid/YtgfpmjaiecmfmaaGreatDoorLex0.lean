import Derived.RangeFuncNested
import Derived.RangeFuncBound
import Derived.RangeFuncCalls
import Derived.RangeFuncLeaves
import Derived.Shelf.Abstract
import Derived.WalkKit
import Derived.OwnWalkIn
import Derived.TacticsInMore
import Derived.Test.YtgfpmjaiecmfmaaGreatDoorProg
import Derived.Test.YtgfpmjaiecmfmaaGreatDoorRegion
import Derived.Test.YtgfpmjaiecmfmaaGreatDoorScope
import Derived.Test.YtgfpmjaiecmfmaaGreatDoorRead
import Derived.Test.YtgfpmjaiecmfmaaGreatDoorLaws
open Go Go.RowKit Go.Cm Go.Shelf
namespace Go.Proofs
attribute [local go_sem] Oper.semAt_some
def tok0 : Value := .agg #[.int .i64 0, .string ⟨#[]⟩, .int .i64 0, .float .f64 0, .int .i64 0, .int .i64 0]
theorem grow_grownBy {w w' : World} (h : Grow w w') : w.grownBy w' none := by
  have b := grow_iff.1 h
  exact ⟨b.os, b.tape, b.output, b.size, fun k hk _ => b.block k hk⟩
set_option maxRecDepth 20000 in
set_option maxHeartbeats 1000000 in
theorem next_none (n cap : Nat) (a : Option Addr) (i : Int) (hi : (n : Int) ≤ i) (w : World) :
    Calls Tryz.prog 192 #[.slice a n cap, .int .i64 i] w fun e w' => e = .returned (.tuple #[tok0, .bool false, .int .i64 0]) ∧ Grow w w' := by
    go_enter Tryz.func192, Tryz.ntmps192
    go_wp2
    refine wp_scope_gotos (fun _ _ _ => False) (fun _ _ _ => 0) ?_ (fun _ _ _ h => h.elim)
    go_wp2
    refine wp_label ?_
    go_wp2
    refine ret_jumps ?_
    refine bodyPost_ret (v := .tuple #[tok0, .bool false, .int .i64 0]) (by simp [results, Tryz.results192, go_sem, tok0]) rfl ?_
    exact ⟨rfl, (by repeat (first | assumption | exact Grow.ext _ _ | exact Grow.refl _ | apply Grow.alloc | apply Grow.drew | apply Grow.drewN | apply Grow.ext_))⟩
set_option maxRecDepth 20000 in
set_option maxHeartbeats 1000000 in
theorem each1_none (l cap : Nat) (a p : Option Addr) (b : Nat) (w : World) (hc : w.cell? ⟨b, 0, none⟩ = some (.slice a 0 cap)) :
    Calls Tryz.prog 191 #[.func (.yield l) #[] #[], .pointer (some ⟨b, 0, none⟩)] w fun e w' => e = .returned (.tuple #[]) ∧ Grow w w' := by
    go_enter Tryz.func191, Tryz.ntmps191
    go_wp2
    go_loop [3] (fun x => x = .int .i64 0) (fun _ => 0)
    case atStart => rfl
    case round =>
      subst hrel
      go_wp2_with (go_at_call 192; refine (next_none 0 cap a 0 (by omega) _).mono ?_; rintro e w2 ⟨rfl, hg⟩; unfold tok0)
      refine bodyPost_ret (results_none rfl _ _ _) rfl ?_
      exact ⟨rfl, (by repeat (first | assumption | exact Grow.ext _ _ | exact Grow.refl _ | apply Grow.alloc | apply Grow.drew | apply Grow.drewN | apply Grow.ext_))⟩
set_option maxHeartbeats 1000000 in
theorem each_spec (v : Value) (h1 : v.oneCell' = true) (w : World) :
    Calls Tryz.prog 118 #[v] w fun e w' => e = .returned (.func (.func 191) #[] #[.pointer (some ⟨w.heap.size, 0, none⟩)]) ∧ w' = w.alloc (.cells #[v] 23) := by
    have hmf : ∀ (fn : Fn) (first cap : Array Value) (w : World), (Instr.makeFunc fn first cap).run Tryz.prog w = .ok (.func fn first cap) w := fun _ _ _ _ => rfl
    go_enter Tryz.func118, Tryz.ntmps118
    go_wp2
    go_ret
    exact ⟨rfl, rfl⟩
theorem each1_stops (n cap : Nat) (a : Option Addr) (b : Nat) (w : World) (hb : b < w.heap.size) (hc : w.cell? ⟨b, 0, none⟩ = some (.slice a 0 cap)) :
    SeqStopsK Fence.wide n Tryz.prog 191 #[.pointer (some ⟨b, 0, none⟩)] (fun _ : Empty => #[undef, undef]) (Below w.heap.size) (fun xs => xs = []) (fun _ => False) 0 w := fun l J Jx W hW hA _ _ h0 => by
    have hc' := (hW.cell (p := ⟨b, 0, none⟩) hb).trans hc
    refine (callsIn_wide (n := n)).2 ((each1_none l cap a none b W hc').mono ?_)
    rintro e w' ⟨rfl, hg⟩
    exact ⟨⟨_, rfl⟩, .inl ⟨[], rfl, hA [] W w' none h0 (grow_grownBy hg) (fun r e => by cases e)⟩⟩
set_option maxRecDepth 20000 in
set_option maxHeartbeats 1000000 in
theorem scan_none (a : Option Addr) (cap : Nat) (w : World) :
    Calls Tryz.prog 70 #[.slice a 0 cap] w fun e w' => e = .returned (.tuple #[.slice none 0 0, .int .i64 0, .int .i64 0]) ∧ Grow w w' := by
    refine (callsIn_wide (n := 5)).1 ?_
    refine callsIn_of_wp_marks Tryz.func70 rfl trivial ?_ rfl
    simp only [Tryz.func70, Tryz.ntmps70, List.size_toArray, List.length_cons, List.length_nil, Nat.reduceAdd, Nat.reduceSub, Array.replicate_succ, Array.replicate_zero, List.push_toArray, List.append_toArray, List.nil_append, List.cons_append]
    gi_wp2_with (refine ⟨trivial, ?_⟩; gi_at_call 118; refine ((callsIn_wide (n := 4)).2 (each_spec _ rfl _)).mono ?_; rintro e w' ⟨rfl, rfl⟩)
    generalize hw1 : ((((((w.alloc _).alloc _).alloc _).alloc _).alloc _)) = w1
    have hs1 : w1.heap.size = w.heap.size + 5 := by rw [← hw1]; simp
    refine wpIn_rangeFunc_ownG rfl (by omega) (gf := 191) (lb := #[.pointer (some ⟨w.heap.size + 4, 0, none⟩)]) rfl trivial (enters_of Tryz.func191 (by kernel_rfl) rfl) (each1_stops 4 cap a (w.heap.size + 4) _ (by omega) (by rw [← hw1]; simp [go_sem])) belowK_t (belowK_b (by omega)) (Below.refl _ _) (fun x => nomatch x)
      (fun _ W => Below w1.heap.size w1 W) (fun _ _ _ => False) (ownFrom_below (Nat.le_refl _) (Nat.le_refl _)) (fun _ _ _ _ _ h => h.elim) (Below.refl _ _) (fun x => nomatch x) (fun _ x => nomatch x) (fun _ _ x => nomatch x) ?_ (fun _ _ _ _ _ h => h.elim)
    rintro D ys W hD rfl hB hK
    obtain ⟨d, rfl⟩ := grow_iff.2 hB
    subst hw1
    have hK' := fun (b1 b2 b3 : Nat) (v1 v2 v3 : Value) => (((KeepsOthers.setCell _ ⟨b1, 0, none⟩ v1).trans (KeepsOthers.setCell _ ⟨b2, 0, none⟩ v2)).trans (KeepsOthers.setCell _ ⟨b3, 0, none⟩ v3)).same D _ hK rfl
    have hB' : ∀ (o1 o2 o3 o4 o5 : Obj), Below w.heap.size w ((((((w.alloc o1).alloc o2).alloc o3).alloc o4).alloc o5).ext d) := fun _ _ _ _ _ => grow_iff.1 (by repeat (first | exact Grow.refl _ | apply Grow.ext_ | apply Grow.alloc))
    gi_wp2
    refine ⟨by simp, .inl ⟨_, _, rfl, run_takeDeferred (hK' _ _ _ _ _ _), ?_⟩⟩
    refine ⟨.tuple #[.slice none 0 0, .int .i64 0, .int .i64 0], ?_, rfl, ?_⟩
    · have hp : ∀ (W : World) (b : Nat), b < w.heap.size + 5 → (W.putObj D (.deferred none)).cell? ⟨b, 0, none⟩ = W.cell? ⟨b, 0, none⟩ := fun W b hb => World.cell?_of_block (by rw [hs1] at hD; simp only [World.putObj]; rw [Array.getElem?_setIfInBounds_ne (by simp; omega)])
      have e0 : ∀ (v1 v2 v3 : Value) (t1 t2 t3 : TypeId) (o4 o5 : Obj), ((((((w.alloc (.cells #[v1] t1)).alloc (.cells #[v2] t2)).alloc (.cells #[v3] t3)).alloc o4).alloc o5).ext d).cell? ⟨w.heap.size, 0, none⟩ = some v1 := fun _ _ _ _ _ _ _ _ => by simp [go_sem]
      have e1 : ∀ (v1 v2 v3 : Value) (t1 t2 t3 : TypeId) (o4 o5 : Obj), ((((((w.alloc (.cells #[v1] t1)).alloc (.cells #[v2] t2)).alloc (.cells #[v3] t3)).alloc o4).alloc o5).ext d).cell? ⟨w.heap.size + 1, 0, none⟩ = some v2 := fun _ _ _ _ _ _ _ _ => by simp [go_sem]
      have e2 : ∀ (v1 v2 v3 : Value) (t1 t2 t3 : TypeId) (o4 o5 : Obj), ((((((w.alloc (.cells #[v1] t1)).alloc (.cells #[v2] t2)).alloc (.cells #[v3] t3)).alloc o4).alloc o5).ext d).cell? ⟨w.heap.size + 1 + 1, 0, none⟩ = some v3 := fun _ _ _ _ _ _ _ _ => by simp [go_sem]
      simp [results, Tryz.results70, go_sem, e0, e1, e2, hp _ w.heap.size (by omega), hp _ (w.heap.size + 1) (by omega), hp _ (w.heap.size + 1 + 1) (by omega)]
    · refine grow_iff.2 (Below.trans ?_ (belowK_b (w := w) (Nat.le_refl _) _ D _ _ (by omega) (hK' _ _ _ _ _ _) rfl rfl))
      exact (((hB' _ _ _ _ _).setCell (p := ⟨w.heap.size, 0, none⟩) (Nat.le_refl _) _).setCell (p := ⟨w.heap.size + 1, 0, none⟩) (Nat.le_succ _) _).setCell (p := ⟨w.heap.size + 1 + 1, 0, none⟩) (by simp; omega) _
end Go.Proofs
