import Derived.Test.YtgfpmjaiecmfmaaGreatDoorProg
import Derived.Test.YtgfpmjaiecmfmaaGreatDoorRegion
import Derived.Test.YtgfpmjaiecmfmaaGreatDoorBytes
import Derived.Test.YtgfpmjaiecmfmaaGreatDoorShellNew
import Derived.Test.YtgfpmjaiecmfmaaGreatDoorRefused
import Derived.Test.YtgfpmjaiecmfmaaGreatDoorTape0
open Go Go.RowKit Go.Cm
namespace Go.Proofs
theorem tbytes_u : Tryz.prog.underlying 23 = some (.slice 5) := by kernel_rfl
theorem tbyte_u : Tryz.prog.underlying 5 = some (.int .u8) := by kernel_rfl
theorem tcmd_z (w : World) : (zeroValue 42).run Tryz.prog w = .ok .nilFunc w := by kernel_rfl
def err280 : ByteArray := ⟨#[101, 114, 114, 111, 114, 32, 50, 56, 48, 10]⟩
def err90 : ByteArray := ⟨#[101, 114, 114, 111, 114, 32, 57, 48, 10]⟩
theorem line_long (p : Option Addr) (n cap : Nat) (a : Option Addr) (hp : p ≠ none) (hn : 32768 < n) (w : World) :
    Calls Tryz.prog 4 #[.pointer p, .slice a n cap] w fun e w' => e = .returned (.tuple #[.slice none 0 0, .int .i64 3]) ∧ w = w' := by
  cases p with
  | none => exact absurd rfl hp
  | some p =>
    have h1 : decide ((n : Int) > 32768) = true := by simp; omega
    go_enter Tryz.func4, Tryz.ntmps4
    go_wp2
    all_goals (go_ret2; exact ⟨rfl, rfl⟩)
theorem line_nil (n cap : Nat) (a : Option Addr) (w : World) :
    Calls Tryz.prog 4 #[.pointer none, .slice a n cap] w fun e w' => e = .returned (.tuple #[.slice none 0 0, .int .i64 1]) ∧ w = w' := by
    go_enter Tryz.func4, Tryz.ntmps4
    go_wp2
    go_ret2
    exact ⟨rfl, rfl⟩
set_option maxRecDepth 20000 in
set_option maxHeartbeats 1000000 in
theorem line_none (bs : Nat) (text v : Value) (l : List UInt8) (I : Nat → Prop) (w : World) (hS : ShellR w bs false text) (hl : SliceR rdByte I w v l) (hn : l.length ≤ 32768) (hq : ∀ c ∈ l, c ≠ 34)
    (hw : wordsB ⟨l.toArray⟩ 0 = []) :
    Calls Tryz.prog 4 #[.pointer (some ⟨bs, 0, none⟩), v] w fun e w' => e = .returned (.tuple #[.slice none 0 0, .int .i64 0]) ∧ Grow w w' := by
    obtain ⟨a, cap, rfl, hcap⟩ := hl.shape
    obtain ⟨bm, m, B, hm, hne⟩ := hS
    have c2 := B.cell (j := 3) rfl
    have hW := words_spec ⟨l.toArray⟩ (by show l.toArray.size ≤ _; simp; omega) (fun k h => hq _ (by show l.toArray[k] ∈ l; simp))
    rw [hw] at hW
    have HL := Lib.hid hl
    clear hl
    go_enter Tryz.func4, Tryz.ntmps4
    go_wp2_with (first | (refine wpList_string_of rfl rfl I l HL.out tbytes_u tbyte_u tstr_u ?_) | (go_at_call 9; refine (hW _).mono ?_; rintro e w2 ⟨⟨v, rfl, hacc⟩, hg⟩; obtain ⟨a2, cap2, rfl, -⟩ := hacc.shape))
    go_ret2
    exact ⟨rfl, hg⟩
set_option maxRecDepth 20000 in
set_option maxHeartbeats 1000000 in
theorem line_hash (bs : Nat) (text v : Value) (l : List UInt8) (I : Nat → Prop) (w : World) (hS : ShellR w bs false text) (hl : SliceR rdByte I w v l) (hn : l.length ≤ 32768) (hq : ∀ c ∈ l, c ≠ 34)
    (w0 : ByteArray) (ws : List ByteArray) (hw : wordsB ⟨l.toArray⟩ 0 = w0 :: ws) (h0 : 0 < w0.size) (hc : w0[0] = 35) :
    Calls Tryz.prog 4 #[.pointer (some ⟨bs, 0, none⟩), v] w fun e w' => e = .returned (.tuple #[.slice none 0 0, .int .i64 0]) ∧ Grow w w' := by
    obtain ⟨a, cap, rfl, hcap⟩ := hl.shape
    obtain ⟨bm, m, B, hm, hne⟩ := hS
    have c2 := B.cell (j := 3) rfl
    have hW := words_spec ⟨l.toArray⟩ (by show l.toArray.size ≤ _; simp; omega) (fun k h => hq _ (by show l.toArray[k] ∈ l; simp))
    rw [hw] at hW
    have HL := Lib.hid hl
    clear hl
    have hc' := byte_eq hc (m := 35) rfl
    go_enter Tryz.func4, Tryz.ntmps4
    go_wp2_with (first | (refine wpList_string_of rfl rfl I l HL.out tbytes_u tbyte_u tstr_u ?_) | (go_at_call 9; refine (hW _).mono ?_; rintro e w2 ⟨⟨v, rfl, hacc⟩, hg⟩; have hs := hacc.slice (I' := fun _ => True) (fun _ h => h.elim) (fun _ _ => trivial); obtain ⟨a2, cap2, rfl, -⟩ := hacc.shape; obtain ⟨b2, o2, rfl, -, c3⟩ := hs.atStr 0 (by simp); simp only [Nat.add_zero, List.getElem_cons_zero] at c3))
    go_ret2
    exact ⟨rfl, hg⟩
set_option maxRecDepth 20000 in
set_option maxHeartbeats 1000000 in
theorem line_err (bs : Nat) (text v : Value) (l : List UInt8) (I : Nat → Prop) (w : World) (hT : Tabs w) (hS : ShellR w bs false text) (hl : SliceR rdByte I w v l) (hn : l.length ≤ 32768) (hq : ∀ c ∈ l, c ≠ 34)
    (w0 : ByteArray) (ws : List ByteArray) (hw : wordsB ⟨l.toArray⟩ 0 = w0 :: ws) (h0 : 0 < w0.size) (hc : w0[0] ≠ 35) (hd : w0.toList ≠ [100, 101, 99, 108, 97, 114, 101]) :
    Calls Tryz.prog 4 #[.pointer (some ⟨bs, 0, none⟩), v] w fun e w' => (∃ u, e = .returned (.tuple #[u, .int .i64 0]) ∧ SliceR rdByte (fun b => w.heap.size ≤ b) w' u err280.data.toList) ∧ Grow w w' := by
    obtain ⟨a, cap, rfl, hcap⟩ := hl.shape
    obtain ⟨bm, m, B, hm, hne⟩ := hS
    have c2 := B.cell (j := 3) rfl
    have c1 := B.cell (j := 2) rfl
    have c5 := B.cell (j := 5) rfl
    have hW := words_spec ⟨l.toArray⟩ (by show l.toArray.size ≤ _; simp; omega) (fun k h => hq _ (by show l.toArray[k] ∈ l; simp))
    rw [hw] at hW
    have HL := Lib.hid hl
    clear hl
    have hc' := byte_ne hc (m := 35) rfl
    go_enter Tryz.func4, Tryz.ntmps4
    go_wp2_with (first | (refine wpList_string_of rfl rfl I l HL.out tbytes_u tbyte_u tstr_u ?_) | (go_at_call 9; refine (hW _).mono ?_; rintro e w2 ⟨⟨v, rfl, hacc⟩, d, rfl⟩; have hs := hacc.slice (I' := fun _ => True) (fun _ h => h.elim) (fun _ _ => trivial); obtain ⟨a2, cap2, rfl, -⟩ := hacc.shape; obtain ⟨b2, o2, rfl, -, c3⟩ := hs.atStr 0 (by simp); simp only [Nat.add_zero, List.getElem_cons_zero] at c3))
    refine Cm.wp_region_canon [] [0, 1, 2, 3, 4, 5, 6, 7, 8, 9, 10, 11, 12] (by kernel_rfl) (by kernel_rfl) (by intro _ _ d _ _ h; cases d <;> exact h) ?_
    (repeat (first | (refine Cm.canon_pre rfl rfl rfl (fun K hK => ?_); go_simp; refine hK _ ?_; clear hK K) | (refine Cm.canon_load rfl rfl (fun K hK => ?_); go_simp; refine hK _ ?_; clear hK K)))
    refine Cm.canon_eff rfl rfl ?_
    have hm' := hm.grow ((Grow.ext w d).drew)
    go_wp2_with (refine wpList_lookup_str rfl rfl tcmds_u tstr_u (tcmd_z _) rfl rfl hm' ?_)
    generalize (lookM m w0).getD .nilFunc = vf
    generalize (lookM m w0).isSome = bf
    refine ⟨fun h => absurd h (by decide), ?_⟩
    (repeat (first | (refine Cm.canon_pre rfl rfl rfl (fun K hK => ?_); go_simp; refine hK _ ?_; clear hK K) | (refine Cm.canon_load rfl rfl (fun K hK => ?_); go_simp; refine hK _ ?_; clear hK K)))
    refine Cm.canon_nil ?_
    cases bf
    all_goals
      go_wp2_with (first | (go_at_call 10; refine (refused_280 _ (hT.grow ((Grow.ext w d).drew))).mono ?_; rintro e w3 ⟨rfl, hg3⟩) | (refine wpList_bytes_of rfl rfl err280 rfl tstr_u tbytes_u tbyte_u ?_; intro v4 w4 h4 hg4))
      go_ret2
      refine ⟨⟨_, rfl, h4.mono fun b hb => ?_⟩, (((Grow.ext w d).drew).trans hg3).trans hg4⟩
      have h1 := (((Grow.ext w d).drew).trans hg3).size
      omega
set_option maxRecDepth 20000 in
set_option maxHeartbeats 1000000 in
theorem line_declare (bs : Nat) (text v : Value) (l : List UInt8) (I : Nat → Prop) (w : World) (hS : ShellR w bs false text) (hl : SliceR rdByte I w v l) (hn : l.length ≤ 32768) (hq : ∀ c ∈ l, c ≠ 34)
    (w0 : ByteArray) (hw : wordsB ⟨l.toArray⟩ 0 = [w0]) (h0 : 0 < w0.size) (hc : w0[0] ≠ 35) (hd : w0.toList = [100, 101, 99, 108, 97, 114, 101]) :
    Calls Tryz.prog 4 #[.pointer (some ⟨bs, 0, none⟩), v] w fun e w' => e = .returned (.tuple #[.slice none 0 0, .int .i64 0]) ∧
      ∃ d, w' = ((w.ext d).setCell ⟨bs, 3, none⟩ (.bool true)).setCell ⟨bs, 4, none⟩ (.slice none 0 0) := by
    obtain ⟨a, cap, rfl, hcap⟩ := hl.shape
    obtain ⟨bm, m, B, hm, hne⟩ := hS
    have c2 := B.cell (j := 3) rfl
    have c4 := B.cell (j := 4) rfl
    have f2 := B.fr 3
    have f4 := B.fr 4
    have hW := words_spec ⟨l.toArray⟩ (by show l.toArray.size ≤ _; simp; omega) (fun k h => hq _ (by show l.toArray[k] ∈ l; simp))
    rw [hw] at hW
    have HL := Lib.hid hl
    clear hl
    have hc' := byte_ne hc (m := 35) rfl
    go_enter Tryz.func4, Tryz.ntmps4
    go_wp2_with (first | (refine wpList_string_of rfl rfl I l HL.out tbytes_u tbyte_u tstr_u ?_) | (go_at_call 9; refine (hW _).mono ?_; rintro e w2 ⟨⟨v, rfl, hacc⟩, d, rfl⟩; have hs := hacc.slice (I' := fun _ => True) (fun _ h => h.elim) (fun _ _ => trivial); obtain ⟨a2, cap2, rfl, -⟩ := hacc.shape; obtain ⟨b2, o2, rfl, -, c3⟩ := hs.atStr 0 (by simp); simp only [Nat.add_zero, List.getElem_cons_zero] at c3))
    go_ret2
    exact ⟨rfl, d, rfl⟩
set_option maxRecDepth 20000 in
set_option maxHeartbeats 1000000 in
theorem declared_end (bs : Nat) (v : Value) (I : Nat → Prop) (w0 w : World) (hT : Tabs w0) (hg0 : Grow w0 w) (hbs : w0.heap.size ≤ bs) (hS : ShellR w bs true (.slice none 0 0)) (hl : SliceR rdByte I w v [101, 110, 100]) :
    Calls Tryz.prog 8 #[.pointer (some ⟨bs, 0, none⟩), v] w fun e w' => e = .returned (.string err90) ∧ ∃ d, w' = (w.setCell ⟨bs, 3, none⟩ (.bool false)).ext d := by
    obtain ⟨a, cap, rfl, hcap⟩ := hl.shape
    obtain ⟨bm, m, B, hm, hne⟩ := hS
    have c3 := B.cell (j := 3) rfl
    have c4 := B.cell (j := 4) rfl
    have f3 := B.fr 3
    have HL := Lib.hid hl
    clear hl
    have hp := fun w => parse_none w
    have ht := fun w => tapenew_none w
    unfold prog0 at hp ht
    go_enter Tryz.func8, Tryz.ntmps8
    go_wp2_with (first | (refine wpList_string_of rfl rfl I [101, 110, 100] HL.out tbytes_u tbyte_u tstr_u ?_) | (go_at_call 13; refine (hp _).mono ?_; rintro e w2 ⟨rfl, d, rfl⟩) | (go_at_call 15; refine (ht _).mono ?_; rintro e w3 ⟨rfl, d2, rfl⟩) | (go_at_call 10; refine (refused_90 _ (hT.grow (by repeat (first | (with_reducible assumption) | (with_reducible exact Grow.refl _) | (with_reducible apply Grow.drew) | (with_reducible apply Grow.ext_) | (with_reducible apply Grow.alloc) | (with_reducible refine Grow.setCell ?_ (by first | (with_reducible assumption) | exact Nat.le_refl _ | (simp; omega) | simp) _))))).mono ?_; rintro e w4 ⟨rfl, d3, rfl⟩))
    go_ret
    refine ⟨rfl, ?_⟩
    show Grow _ _
    exact (by repeat (first | (with_reducible assumption) | (with_reducible exact Grow.refl _) | (with_reducible apply Grow.drew) | (with_reducible apply Grow.ext_) | (with_reducible apply Grow.alloc) | (with_reducible refine Grow.setCell ?_ (by first | (with_reducible assumption) | exact Nat.le_refl _ | (simp; omega) | simp) _)))
end Go.Proofs
