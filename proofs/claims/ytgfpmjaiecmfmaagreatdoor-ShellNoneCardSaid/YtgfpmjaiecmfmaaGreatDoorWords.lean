import Derived.Test.YtgfpmjaiecmfmaaGreatDoorProg
import Derived.Test.YtgfpmjaiecmfmaaGreatDoorAcc
import Derived.Test.YtgfpmjaiecmfmaaGreatDoorScope
import Derived.Outline
import Derived.LoopTactic
open Go Go.RowKit Go.Cm
namespace Go.Cm
/-- The first place from i on that holds no blank. -/
def skipB (s : ByteArray) (i : Nat) : Nat := if h : i < s.size then (if s[i] = 32 then skipB s (i + 1) else i) else i
termination_by s.size - i
/-- The first place from i on that holds a blank. -/
def runB (s : ByteArray) (i : Nat) : Nat := if h : i < s.size then (if s[i] = 32 then i else runB s (i + 1)) else i
termination_by s.size - i
theorem skipB_ge (s : ByteArray) (i : Nat) : i ≤ skipB s i := by
  unfold skipB
  split
  · split
    · have := skipB_ge s (i + 1); omega
    · omega
  · omega
termination_by s.size - i
theorem runB_ge (s : ByteArray) (i : Nat) : i ≤ runB s i := by
  unfold runB
  split
  · split
    · omega
    · have := runB_ge s (i + 1); omega
  · omega
termination_by s.size - i
theorem runB_gt (s : ByteArray) (i : Nat) (h : i < s.size) (hb : s[i] ≠ 32) : i < runB s i := by
  unfold runB
  rw [dif_pos h, if_neg hb]
  have := runB_ge s (i + 1)
  omega
theorem skipB_at (s : ByteArray) (i : Nat) (h : skipB s i < s.size) : s[skipB s i] ≠ 32 := by
  unfold skipB at h ⊢
  split
  · split
    · exact skipB_at s (i + 1) (by rw [dif_pos (by assumption), if_pos (by assumption)] at h; exact h)
    · assumption
  · rw [dif_neg (by assumption)] at h; omega
termination_by s.size - i
/-- The pieces between blanks, from i on (of a text without quotes). -/
def wordsB (s : ByteArray) (i : Nat) : List ByteArray :=
  if h : skipB s i < s.size then s.extract (skipB s i) (runB s (skipB s i)) :: wordsB s (runB s (skipB s i)) else []
termination_by s.size - i
decreasing_by
  have h1 := skipB_ge s i
  have h2 := runB_gt s _ h (skipB_at s i h)
  omega
theorem words_more (s : ByteArray) (i : Nat) (h : skipB s i < s.size) : wordsB s i = s.extract (skipB s i) (runB s (skipB s i)) :: wordsB s (runB s (skipB s i)) := by
  conv => lhs; unfold wordsB
  rw [dif_pos h]
theorem words_none (s : ByteArray) (i : Nat) (h : ¬ skipB s i < s.size) : wordsB s i = [] := by
  unfold wordsB
  rw [dif_neg h]
end Go.Cm
namespace Go.Proofs
theorem infoStr : ElemI Tryz.prog 39 9 1 16 := ElemI.of (.string ByteArray.empty) (by kernel_rfl) (by kernel_rfl) rfl (by omega)
def wordsJ (s : ByteArray) (w : World) (l : Nat) (a' : Go.Act) (w' : World) : Prop :=
  l = 0 ∧ ∃ (i : Nat) (v : Value) (ys : List ByteArray), a'.defers = [] ∧ a'.tmps.size = 78 ∧ a'.tmps.getD 0 undef = .string s ∧ a'.tmps.getD 1 undef = undef ∧ a'.tmps.getD 2 undef = v ∧ a'.tmps.getD 3 undef = .int .i64 i ∧
    i ≤ s.size ∧ ys.length ≤ i ∧ AccR rdStr (fun _ => False) w.heap.size 9 w' v ys ∧ Hid (wordsB s 0 = ys ++ wordsB s i) ∧ Grow w w'
set_option maxRecDepth 20000 in
set_option maxHeartbeats 1000000 in
theorem words_spec (s : ByteArray) (hs : s.size ≤ 100000) (hq : ∀ k (h : k < s.size), s[k] ≠ 34) (w : World) :
    Calls Tryz.prog 9 #[.string s] w fun e w' => (∃ v, e = .returned v ∧ AccR rdStr (fun _ => False) w.heap.size 9 w' v (wordsB s 0)) ∧ Grow w w' := by
    go_enter Tryz.func9, Tryz.ntmps9
    go_wp2
    refine wp_scope_label 0 (wordsJ s w)
      (fun _ a' _ => s.size - (intOf (a'.tmps.getD 3 undef)).toNat) rfl ?_ ?_ ?_
    · go_wp2
      refine ⟨rfl, 0, _, [], rfl, rfl, rfl, rfl, rfl, rfl, by omega, by simp, AccR.nil, by show _ = _; rfl, Grow.refl _⟩
    rotate_left
    · rintro l a' w' hl ⟨rfl, _⟩
      exact absurd rfl hl
    · rintro ⟨t, ds⟩ w' ⟨-, i, v, ys, hds, hsz, e0, e1, e2, e3, hi, hyl, hacc, hw, hg⟩
      simp only at hds hsz e0 e1 e2 e3
      subst hds
      rw [frame_lit t 78 hsz]
      simp only [List.range, List.range.loop, List.map_cons, List.map_nil, e0, e1, e2, e3]
      clear e0 e1 e2 e3 hsz
      go_wp2
      go_loop [3] (fun x => ∃ k : Nat, i ≤ k ∧ k ≤ s.size ∧ x = .int .i64 k ∧ Hid (skipB s k = skipB s i)) (fun x => s.size - (intOf x).toNat)
      case atStart => exact ⟨i, by omega, hi, rfl, rfl⟩
      case round =>
        obtain ⟨k, hk, hk2, rfl, hsk⟩ := hrel
        by_cases hlt : k < s.size
        · by_cases hb : s[k] = 32
          · have hb' := byte_eq hb (m := 32) rfl
            go_wp2
            go_round
            case rel => exact ⟨k + 1, by omega, by omega, by go_num, by show _ = _; rw [← hsk.out]; conv => rhs; unfold skipB; rw [dif_pos hlt, if_pos hb]⟩
            case measure => simp [intOf]; omega
          · have hb' := byte_ne hb (m := 32) rfl
            have hq' := byte_ne (hq k hlt) (m := 34) rfl
            have hne : ((k : Int) == s.size) = false := by rw [beq_eq_false_iff_ne]; omega
            have hkk : Hid (skipB s i = k) := by
              show _ = _
              rw [← hsk.out]; unfold skipB; rw [dif_pos hlt, if_neg hb]
            go_wp2
            go_loop [3] (fun x => ∃ m : Nat, k ≤ m ∧ m ≤ s.size ∧ x = .int .i64 m ∧ Hid (runB s m = runB s k)) (fun x => s.size - (intOf x).toNat)
            case atStart => exact ⟨k, by omega, hk2, rfl, rfl⟩
            case round =>
              obtain ⟨m, hm, hm2, rfl, hrm⟩ := hrel
              by_cases hlm : m < s.size
              · by_cases hbm : s[m] = 32
                · have hbm' := byte_eq hbm (m := 32) rfl
                  have hmm : Hid (runB s k = m) := by
                    show _ = _
                    rw [← hrm.out]; unfold runB; rw [dif_pos hlm, if_pos hbm]
                  clear hrm hsk
                  have hl := runB_gt s k hlt hb
                  rw [hmm.out] at hl
                  go_wp2_with (at_builtin; refine wpList_push hg rdStr (fun _ => False) infoStr ys (s.extract k m) rfl rfl rfl rfl hacc rfl (by omega) (by omega) (fun _ h => h.elim) ?_; clear hg hacc; rintro v2 w2 hacc hg ⟨g2, cap2, rfl⟩ -)
                  refine wp_goto ?_
                  refine (show wordsJ s w 0 _ _ ∧ _ from ?_)
                  refine ⟨⟨rfl, m, _, _, rfl, rfl, rfl, rfl, rfl, rfl, hm2, ?_, by simpa using hacc, ?_, hg⟩, ?_⟩
                  · simp; omega
                  · show _ = _
                    rw [hw.out, words_more s i (by rw [hkk.out]; exact hlt), hkk.out, hmm.out]
                    simp
                  · simp [intOf]; omega
                · have hbm' := byte_ne hbm (m := 32) rfl
                  go_wp2
                  go_round
                  case rel => exact ⟨m + 1, by omega, by omega, by go_num, by show _ = _; rw [← hrm.out]; conv => rhs; unfold runB; rw [dif_pos hlm, if_neg hbm]⟩
                  case measure => simp [intOf]; omega
              · have hmm : Hid (runB s k = m) := by
                  show _ = _
                  rw [← hrm.out]; unfold runB; rw [dif_neg hlm]
                have hl := runB_gt s k hlt hb
                rw [hmm.out] at hl
                clear hrm hsk
                go_wp2_with (at_builtin; refine wpList_push hg rdStr (fun _ => False) infoStr ys (s.extract k m) rfl rfl rfl rfl hacc rfl (by omega) (by omega) (fun _ h => h.elim) ?_; clear hg hacc; rintro v2 w2 hacc hg ⟨g2, cap2, rfl⟩ -)
                refine wp_goto ?_
                refine (show wordsJ s w 0 _ _ ∧ _ from ?_)
                refine ⟨⟨rfl, m, _, _, rfl, rfl, rfl, rfl, rfl, rfl, hm2, ?_, by simpa using hacc, ?_, hg⟩, ?_⟩
                · simp; omega
                · show _ = _
                  rw [hw.out, words_more s i (by rw [hkk.out]; exact hlt), hkk.out, hmm.out]
                  simp
                · simp [intOf]; omega
        · have hks : k = s.size := by omega
          have hkk : Hid (skipB s i = s.size) := by
            show _ = _
            rw [← hsk.out]; unfold skipB; rw [dif_neg hlt, hks]
          have hne : ((k : Int) == s.size) = true := by rw [beq_iff_eq]; omega
          go_wp2
          refine ret_jumps ?_
          go_ret
          refine ⟨⟨_, rfl, ?_⟩, hg⟩
          rw [hw.out, words_none s i (by rw [hkk.out]; omega)]
          simpa using hacc
end Go.Proofs
