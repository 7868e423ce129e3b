import Derived.Test.YtgfpmjaiecmfmaaGreatDoorProg
import Derived.Test.YtgfpmjaiecmfmaaGreatDoorShelf
import Derived.Test.YtgfpmjaiecmfmaaGreatDoorRead
import Derived.Test.YtgfpmjaiecmfmaaGreatDoorLaws
open Go Go.RowKit Go.Cm Go.Shelf
namespace Go.Proofs
/-- The library's table of powers of ten, which strconv reads, lies in the world. -/
def Tabs (w : World) : Prop := Lib.TabIs Tryz.prog w "internal/strconv.uint64pow10" .u64 Lib.pow10Tab
def errText (e : Int) : ByteArray := (⟨#[101, 114, 114, 111, 114, 32]⟩ ++ ⟨(Lib.itoa e).toArray⟩) ++ ⟨#[10]⟩
theorem sort_grow (w : World) (k : Nat) (os : Array Obj) : Grow w («Sort».grow (w.drewN k) os) :=
  ((Grow.refl w).drewN k).trans (Grow.of_below ⟨rfl, rfl, rfl, by simp [«Sort».grow], fun b hb => by simp only [«Sort».grow]; rw [Array.getElem?_append_left hb]⟩)
set_option maxRecDepth 20000 in
set_option maxHeartbeats 1000000 in
theorem refused_spec (e : Int) (h0 : 0 ≤ e) (h1 : e ≤ 9223372036854775807) (hl : (Lib.itoa e).length ≤ 100) (w : World) (hT : Tabs w) :
    Calls Tryz.prog 10 #[.int .i64 e] w fun x w' => x = .returned (.string (errText e)) ∧ Grow w w' := by
    have hb1 : ¬ 9223372036854775807 < 6 + (Lib.itoa e).length := by omega
    have hb2 : ¬ 9223372036854775807 < 6 + (Lib.itoa e).length + 1 := by omega
    go_enter Tryz.func10, Tryz.ntmps10
    go_wp2_with (go_at_call 16; refine (Tryz.strconv_Itoa e (by omega) h1 _ hT).mono ?_; rintro x w2 ⟨rfl, k, os, rfl⟩)
    go_ret
    exact ⟨rfl, sort_grow _ _ _⟩
theorem itoa_280 : Lib.itoa 280 = [50, 56, 48] := by simp [Lib.itoa, Lib.decDigits]
theorem itoa_90 : Lib.itoa 90 = [57, 48] := by simp [Lib.itoa, Lib.decDigits]
theorem refused_280 (w : World) (hT : Tabs w) :
    Calls Tryz.prog 10 #[.int .i64 280] w fun x w' => x = .returned (.string ⟨#[101, 114, 114, 111, 114, 32, 50, 56, 48, 10]⟩) ∧ Grow w w' :=
  (refused_spec 280 (by decide) (by decide) (by rw [itoa_280]; decide) w hT).mono fun _ _ h => ⟨h.1.trans (by unfold errText; rw [itoa_280]; rfl), h.2⟩
theorem refused_90 (w : World) (hT : Tabs w) :
    Calls Tryz.prog 10 #[.int .i64 90] w fun x w' => x = .returned (.string ⟨#[101, 114, 114, 111, 114, 32, 57, 48, 10]⟩) ∧ Grow w w' :=
  (refused_spec 90 (by decide) (by decide) (by rw [itoa_90]; decide) w hT).mono fun _ _ h => ⟨h.1.trans (by unfold errText; rw [itoa_90]; rfl), h.2⟩
theorem Tabs.grow {w w' : World} (h : Tabs w) (hg : Grow w w') : Tabs w' := by
  unfold Tabs Lib.TabIs World.var? at *
  cases hn : Tryz.prog.globalNamed "internal/strconv.uint64pow10" with
  | none => simp [hn] at h
  | some g =>
    simp only [hn] at h ⊢
    simp only [Option.bind_some] at h ⊢
    have hlt : g < w.heap.size := by
      rcases Nat.lt_or_ge g w.heap.size with h' | h'
      · exact h'
      · rw [Array.getElem?_eq_none h'] at h; cases h
    rw [hg.block hlt]
    exact h
end Go.Proofs
