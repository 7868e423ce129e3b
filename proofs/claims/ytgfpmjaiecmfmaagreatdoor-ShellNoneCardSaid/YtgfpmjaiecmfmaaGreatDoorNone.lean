import Derived.Deep.OwnRows
import Derived.Lib.SlBytesConst
import Derived.Test.YtgfpmjaiecmfmaaGreatDoorProg
import Derived.Test.YtgfpmjaiecmfmaaGreatDoorLineOks
open Go Go.RowKit Go.Cm Go.Shelf
namespace Go.Cm
theorem wpList_string_g {P : Program} {src dst e : TypeId} {w : World} {ops : Array Oper} {rest : List Oper} {o : Oper} {a : Go.Act} {Q : Exit → Go.Act → World → Prop} (hgd : Region.wanted o (yielded ops a.tmps) = true) {x : Operand} (ho : o.op = .convert src dst x) (I : Nat → Prop) (l : List UInt8) (h : SliceR rdByte I w (a.eval x) l)
    (hs : P.underlying src = some (.slice e)) (he : P.underlying e = some (.int .u8)) (hd : P.underlying dst = some .string)
    (hn : wpList P ops Q rest (a.put o.dst (.string ⟨l.toArray⟩)) w) : wpList P ops Q (o :: rest) a w := by
  refine wpList_step fun K hK => ?_
  rw [if_pos hgd]
  unfold Oper.wp execOp
  simp only [ho, Sem.run_bind, run_string_of hs he hd h, Result.andThen_ok, Sem.run_pure]
  exact hK _ _ hn
/-- Bytes just laid. -/
theorem SliceR.lit (w : World) (T : TypeId) (l : List UInt8) (n : Nat) (hn : n = l.length) (cs : Array Value) (fz : Nat × Nat) (hcs : cs = (l.map fun c => Value.int .u8 c.toNat).toArray) (g : Nat) (hg : g = w.heap.size) :
    SliceR rdByte (fun b => b = g) (w.alloc (.cells cs T fz)) (.slice (some ⟨g, 0, none⟩) n n) l := by
  subst hn hcs hg
  refine SliceR.of_rows rfl (Nat.le_refl _) fun i x hi => ⟨[.int .u8 x.toNat], rfl, fun j u hj => ?_⟩
  have : j = 0 := by
    have := (List.getElem?_eq_some_iff.1 hj).1
    simp at this
    omega
  subst this
  have hb : ∀ o : Obj, (w.alloc o).heap[w.heap.size]? = some o := fun o => by show (w.heap.push _)[w.heap.size]? = _; simp
  simp only [World.cell?, hb, Option.isSome_none, Bool.false_eq_true, if_false, rdByte, rdFlat, Nat.mul_one, Nat.zero_add, Nat.add_zero, List.getElem?_toArray, List.getElem?_map, hi, Option.map_some]
  simpa using hj
end Go.Cm
namespace Go.Proofs
theorem _root_.Go.Proofs.ShellR.grow {w w' : World} {bs : Nat} {dec : Bool} {text : Value} (h : ShellR w bs dec text) (hg : Grow w w') : ShellR w' bs dec text := by
  obtain ⟨b, m, h⟩ := h
  exact ⟨b, m, ShellM.grow h hg⟩
theorem zeros_words (n : Nat) (hn : 0 < n) : ∃ w0 ws, wordsB ⟨(List.replicate n (0 : UInt8)).toArray⟩ 0 = w0 :: ws ∧ ∃ h : 0 < w0.size, w0[0] ≠ 35 ∧ w0.toList ≠ [100, 101, 99, 108, 97, 114, 101] := by
  generalize hs : (⟨(List.replicate n (0 : UInt8)).toArray⟩ : ByteArray) = s
  have hsz : s.size = n := by rw [← hs]; simp [ByteArray.size]
  have h0 : 0 < s.size := by omega
  have hs0 : s[0] = 0 := by subst hs; show (List.replicate n (0 : UInt8)).toArray[0] = 0; simp
  have hsk : skipB s 0 = 0 := by
    unfold skipB
    rw [dif_pos h0, if_neg (by rw [hs0]; decide)]
  have hr := runB_gt s 0 h0 (by rw [hs0]; decide)
  rw [words_more s 0 (by rw [hsk]; exact h0), hsk]
  refine ⟨_, _, rfl, ?_⟩
  have hz : 0 < (s.extract 0 (runB s 0)).size := by rw [ByteArray.size_extract]; omega
  have hg : (s.extract 0 (runB s 0))[0] = 0 := by
    rw [ByteArray.getElem_extract]
    simpa using hs0
  refine ⟨hz, by rw [hg]; decide, fun e => ?_⟩
  rw [ByteArray.toList_eq] at e
  have : (s.extract 0 (runB s 0)).data[0]'hz = 0 := hg
  have h2 : (s.extract 0 (runB s 0)).data.toList[0]? = some 0 := by
    have hz2 : 0 < (s.extract 0 (runB s 0)).data.size := hz
    rw [Array.getElem?_toList, Array.getElem?_eq_getElem hz2, this]
  rw [e] at h2
  exact absurd h2 (by decide)
theorem zeros_line (n : Nat) (hn : 0 < n) (hn2 : n ≤ 32768) (bs : Nat) (text v : Value) (I : Nat → Prop) (w : World) (hT : Tabs w) (hS : ShellR w bs false text) (hl : SliceR rdByte I w v (List.replicate n 0)) :
    Calls Tryz.prog 4 #[.pointer (some ⟨bs, 0, none⟩), v] w fun e w' => (∃ u, e = .returned (.tuple #[u, .int .i64 0]) ∧ SliceR rdByte (fun b => w.heap.size ≤ b) w' u [101, 114, 114, 111, 114, 32, 50, 56, 48, 10]) ∧ Grow w w' := by
  obtain ⟨z0, zs, hz, hz0, hz1, hz2⟩ := zeros_words n hn
  exact line_err bs text v (List.replicate n 0) I w hT hS hl (by rw [List.length_replicate]; exact hn2) (fun c hc => by rw [(List.mem_replicate.1 hc).2]; decide) z0 zs hz hz0 hz1 hz2
theorem num_spec (x : Value) (w : World) : Calls Tryz.prog 7 #[x] w fun e w' => e = .returned x ∧ w' = w := by
    go_enter Tryz.func7, Tryz.ntmps7
    go_wp2
    go_ret
    exact ⟨rfl, rfl⟩
theorem take_rep (n m : Nat) (h : n ≤ m) : (List.replicate m (0 : UInt8)).take n = List.replicate n 0 := by rw [List.take_replicate, Nat.min_eq_left h]
theorem make_zeros : ∃ Z : Array Value, Z = ((List.replicate 32769 (0 : UInt8)).map fun c => Value.int .u8 c.toNat).toArray ∧
    ∀ w : World, (Instr.makeSlice 23 (.int .i64 32769) (.int .i64 32769)).run Tryz.prog w = .ok (.slice (some ⟨w.heap.size, 0, none⟩) 32769 32769) (w.alloc (.cells Z 5)) := by
  refine ⟨madeCells #[.int .u8 0] 32769, ?_, fun w => run_make_row' 23 5 (.int .u8 0) 1 tbytes_u (by kernel_rfl) rfl .i64 .i64 32769 (by omega) (by omega) w⟩
  apply Array.ext'
  rw [toList_madeCells_one, List.map_replicate]
  rfl
set_option maxRecDepth 20000 in
set_option maxHeartbeats 4000000 in
theorem none_walk (w : World) (hT : Tabs w) : Calls Tryz.prog 3 #[] w fun e w' => e = .returned (.bool true) ∧ Grow w w' := by
    have kc := fun (w : World) (C : Array Value) (n c : Nat) => Lib.run_convert_bytes_const w 23 5 C n c tbytes_u tbyte_u
    go_enter Tryz.func3, Tryz.ntmps3
    go_wp2_with (go_at_call 4; fail)
    refine (line_nil _ _ _ _).mono ?_
    rintro e w1 ⟨rfl, rfl⟩
    obtain ⟨Z, hZ, km⟩ := make_zeros
    have HZ := Lib.hid hZ
    clear hZ
    go_wp2_with (go_at_call 5; fail)
    refine (run_long 32769 32769 _ (by omega) _).mono ?_
    rintro e w1 ⟨rfl, rfl⟩
    go_wp2_with (go_at_call 6; fail)
    have HZ1 := Lib.hid (SliceR.lit (w.alloc (.cells #[.int .u8 114, .int .u8 117, .int .u8 108, .int .u8 101, .int .u8 115] 5 (5, 6))) 5 (List.replicate 32769 0) 32769 (List.length_replicate).symm Z (0, 0) HZ.out (w.heap.size + 1) (by simp))
    refine (new_spec _).mono ?_
    rintro e w2 ⟨⟨bs, rfl, hS, hbs⟩, hg⟩
    have HZ2 := Lib.hid (HZ1.out.grow hg)
    have HS := Lib.hid hS
    have HG := Lib.hid ((((Grow.refl w).alloc _).alloc _).trans hg)
    clear hS hg
    go_wp2_with (go_at_call 4; fail)
    refine (line_long (some _) 32769 32769 _ (by simp) (by omega) _).mono ?_
    rintro e w3 ⟨rfl, rfl⟩
    go_wp2_with (go_at_call 4; fail)
    have HZ3 := Lib.hid ((HZ2.out.take 32768 (by rw [List.length_replicate]; omega) 32769 (by omega)))
    rw [take_rep 32768 32769 (by omega)] at HZ3
    refine (zeros_line 32768 (by omega) (by omega) bs _ _ _ w2 (hT.grow HG.out) HS.out HZ3.out).mono ?_
    rintro e w3 ⟨⟨d, rfl, hd⟩, hg3⟩
    obtain ⟨da, dc, rfl, -⟩ := hd.shape
    have HD := Lib.hid hd
    have HS3 := Lib.hid (HS.out.grow hg3)
    have HG3 := Lib.hid (HG.out.trans hg3)
    clear hd hg3
    go_wp2_with (go_at_call 4; fail)
    refine (line_hash bs _ _ [32, 32, 35, 32, 114, 117, 108, 101, 115] _ _ (HS3.out.grow ((Grow.refl w3).alloc _)) (SliceR.lit w3 5 [32, 32, 35, 32, 114, 117, 108, 101, 115] 9 rfl _ (9, 10) rfl w3.heap.size rfl) (by decide) (by decide) _ _ words_X (by decide) (by decide)).mono ?_
    rintro e w4 ⟨rfl, hg4⟩
    have HD4 := Lib.hid (HD.out.grow (((Grow.refl w3).alloc _).trans hg4))
    have HS4 := Lib.hid (HS3.out.grow (((Grow.refl w3).alloc _).trans hg4))
    have HG4 := Lib.hid (HG3.out.trans (((Grow.refl w3).alloc _).trans hg4))
    clear hg4
    go_wp2_with (go_at_call 4; fail)
    refine (line_err bs _ _ [32, 114, 117, 108, 101, 115, 32, 49] _ _ (hT.grow (HG4.out.alloc _)) (HS4.out.grow ((Grow.refl w4).alloc _)) (SliceR.lit w4 5 [32, 114, 117, 108, 101, 115, 32, 49] 8 rfl _ (8, 9) rfl w4.heap.size rfl) (by decide) (by decide) _ _ words_Y (by decide) (by decide) (by rw [ByteArray.toList_eq]; decide)).mono ?_
    rintro e w5 ⟨⟨y, rfl, hy⟩, hg5⟩
    replace hy : SliceR rdByte (fun b => (w4.alloc (.cells #[.int .u8 32, .int .u8 114, .int .u8 117, .int .u8 108, .int .u8 101, .int .u8 115, .int .u8 32, .int .u8 49] 5 (8, 9))).heap.size ≤ b) w5 y [101, 114, 114, 111, 114, 32, 50, 56, 48, 10] := hy
    obtain ⟨ya, yc, rfl, -⟩ := hy.shape
    have HY := Lib.hid hy
    have HD5 := Lib.hid (HD4.out.grow (((Grow.refl w4).alloc _).trans hg5))
    have HG5 := Lib.hid (HG4.out.trans (((Grow.refl w4).alloc _).trans hg5))
    clear hy hg5
    go_wp2_with (go_at_call 5; fail)
    refine (run_7 _ _ _ (hT.grow (HG5.out.alloc _)) (SliceR.lit w5 5 [35, 32, 97, 10, 10, 32, 32, 10, 10, 115, 112, 97, 119, 110, 32, 107, 10, 100, 101, 99, 108, 97, 114, 101, 10, 101, 110, 100, 10] 29 rfl _ (29, 30) rfl w5.heap.size rfl) (fun b hb => by rw [hb]; simp)).mono ?_
    rintro e w6 ⟨⟨z, rfl, hz⟩, hg6⟩
    obtain ⟨za, zc, rfl, -⟩ := hz.shape
    have HZ6 := Lib.hid hz
    have HD6 := Lib.hid (HD5.out.grow (((Grow.refl w5).alloc _).trans hg6))
    have HY6 := Lib.hid (HY.out.grow (((Grow.refl w5).alloc _).trans hg6))
    have HG6 := Lib.hid (HG5.out.trans (((Grow.refl w5).alloc _).trans hg6))
    clear hz hg6
    have cd := run_string_of (P := Tryz.prog) (src := 23) (dst := 9) tbytes_u tbyte_u tstr_u HD6.out
    have cy := run_string_of (P := Tryz.prog) (src := 23) (dst := 9) tbytes_u tbyte_u tstr_u HY6.out
    have cz := run_string_of (P := Tryz.prog) (src := 23) (dst := 9) tbytes_u tbyte_u tstr_u HZ6.out
    simp only [List.length_cons, List.length_nil] at cd cy cz
    go_wp2_with (go_at_call 7; refine (num_spec _ _).mono ?_; rintro e w' ⟨rfl, rfl⟩)
    go_ret
    exact ⟨rfl, HG6.out⟩
end Go.Proofs
