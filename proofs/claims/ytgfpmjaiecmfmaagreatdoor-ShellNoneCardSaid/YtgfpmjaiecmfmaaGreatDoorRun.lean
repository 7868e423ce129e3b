import Derived.Test.YtgfpmjaiecmfmaaGreatDoorProg
import Derived.Test.YtgfpmjaiecmfmaaGreatDoorLine
import Derived.Test.YtgfpmjaiecmfmaaGreatDoorCut
open Go Go.RowKit Go.Cm Go.Shelf
namespace Go.Proofs
/-- A shell at block bs, its commands at block bm. -/
def ShellM (w : World) (bs bm : Nat) (m : List (ByteArray × Value)) (dec : Bool) (text : Value) : Prop :=
  Blk w bs 37 [.slice none 0 0, .slice none 0 0, .pointer none, .bool dec, text, .map (some bm)] ∧ MapR w bm m ∧ bm ≠ bs
theorem ShellM.keep {w w' : World} {bs bm : Nat} {m} {dec : Bool} {text : Value} (h : ShellM w bs bm m dec text) (h1 : w'.heap[bs]? = w.heap[bs]?) (h2 : w'.heap[bm]? = w.heap[bm]?) : ShellM w' bs bm m dec text := by
  obtain ⟨B, hm, hne⟩ := h
  obtain ⟨es, c, hb, he⟩ := hm
  exact ⟨B.keep h1, ⟨es, c, h2.trans hb, he⟩, hne⟩
theorem ShellM.grow {w w' : World} {bs bm : Nat} {m} {dec : Bool} {text : Value} (h : ShellM w bs bm m dec text) (hg : Grow w w') : ShellM w' bs bm m dec text :=
  h.keep (hg.block h.1.lt) (hg.block h.2.1.lt)
theorem _root_.Go.Cm.AccR.keep1 {α : Type} {rd : Rdr α} {base : Nat} {e : TypeId} {w w' : World} {v : Value} {ys : List α} {bs : Nat} (h : AccR rd (fun _ => False) base e w v ys) (hg : w.grownBy w' (some bs)) (hb : bs < base) : AccR rd (fun _ => False) base e w' v ys :=
  h.keep (fun _ h => h.elim) fun g hg' hlt => hg.block g hlt fun e => by have := h.base_le hg'; cases e; omega
theorem SliceR.addr {α : Type} {rd : Rdr α} {I : Nat → Prop} {w : World} {a : Option Addr} {n cap : Nat} {xs : List α} (h : SliceR rd I w (.slice a n cap) xs) : xs ≠ [] → a ≠ none := by
  intro hne ha
  obtain ⟨a', c', hv, -, hx⟩ := h
  injection hv with e1
  obtain ⟨b, o, cs, e, -⟩ := hx 0 (xs[0]'(List.length_pos_iff.2 hne)) (by simp)
  rw [← e1, ha] at e
  cases e
def flatL (ls : List (List UInt8)) : List UInt8 := ls.flatMap (· ++ [10])
theorem flatL_cons (L : List UInt8) (ls : List (List UInt8)) : flatL (L :: ls) = L ++ 10 :: flatL ls := by simp [flatL]
def outsL (O : List (List UInt8) → List UInt8) : List (List UInt8) → List UInt8
  | [] => []
  | L :: ls => O (L :: ls) ++ outsL O ls
def lenOf : Value → Nat
  | .slice _ n _ => n
  | _ => 0
/-- What one line does to a shell, whatever the line's place in memory. -/
def LineOk (O : List (List UInt8) → List UInt8) (dec : List (List UInt8) → Bool) (w0 : World) (L : List UInt8) (ls : List (List UInt8)) : Prop :=
  ∀ (bs bm : Nat) (m : List (ByteArray × Value)) (text : Value) (I : Nat → Prop) (W : World) (u : Value), Grow w0 W → w0.heap.size ≤ bs → bs < W.heap.size → bm < W.heap.size → ShellM W bs bm m (dec (L :: ls)) text → (dec (L :: ls) = true → text = .slice none 0 0) → SliceR rdByte I W u L →
    Calls Tryz.prog 4 #[.pointer (some ⟨bs, 0, none⟩), u] W fun e w' => (∃ t, e = .returned (.tuple #[t, .int .i64 0]) ∧ SliceR rdByte (fun b => W.heap.size ≤ b) w' t (O (L :: ls))) ∧
      (∃ text', ShellM w' bs bm m (dec ls) text' ∧ (dec ls = true → text' = .slice none 0 0)) ∧ W.grownBy w' (some bs)
theorem elemB : ElemI Tryz.prog 23 5 rdByte.sz 1 := ElemI.of (.int .u8 0) tbytes_u (by kernel_rfl) rfl (by decide)
set_option maxRecDepth 20000 in
set_option maxHeartbeats 2000000 in
theorem run_spec (O : List (List UInt8) → List UInt8) (dec : List (List UInt8) → Bool) (ls : List (List UInt8)) (I : Nat → Prop) (v : Value) (w : World) (hl : SliceR rdByte I w v (flatL ls)) (hI : ∀ b, I b → b < w.heap.size)
    (hlen : (flatL ls).length ≤ 32768) (h10 : ∀ L ∈ ls, (10 : UInt8) ∉ L) (ho : (outsL O ls).length ≤ 1000000) (hd : dec ls = false)
    (hline : ∀ L ls', (L :: ls') <:+ ls → LineOk O dec w L ls') :
    Calls Tryz.prog 5 #[v] w fun e w' => (∃ u, e = .returned (.tuple #[u, .int .i64 0]) ∧ SliceR rdByte (fun b => w.heap.size ≤ b) w' u (outsL O ls)) ∧ Grow w w' := by
  obtain ⟨a, cap, rfl, hcap⟩ := hl.shape
  go_enter Tryz.func5, Tryz.ntmps5
  have HL := Lib.hid hl
  clear hl
  go_wp2_with (go_at_call 6; refine (new_spec _).mono ?_; rintro e w1 ⟨⟨bs, rfl, hS, hbs⟩, hg1⟩)
  obtain ⟨bm, m, B, hm, hne⟩ := hS
  have hbs1 : bs < w1.heap.size := B.lt
  go_loopw [5, 6] (fun o r wr => ∃ ls' done, ls' <:+ ls ∧ done ++ outsL O ls' = outsL O ls ∧ SliceR rdByte I wr r (flatL ls') ∧ AccR rdByte (fun _ => False) w1.heap.size 5 wr o done ∧
      (∃ text, ShellM wr bs bm m (dec ls') text ∧ (dec ls' = true → text = .slice none 0 0)) ∧ Grow w wr ∧ w1.heap.size ≤ wr.heap.size)
    (fun o r wr => lenOf r)
  case atStart =>
    exact ⟨ls, [], List.suffix_refl _, by simp, HL.out.grow hg1, AccR.nil, ⟨_, ⟨by rw [hd]; exact B, hm, hne⟩, fun _ => rfl⟩, hg1, Nat.le_refl _⟩
  case round =>
    obtain ⟨ls', done, hsuf, hout, hr, hacc, ⟨text, hSM, htx⟩, hg, hsz⟩ := hrel
    obtain ⟨ra, rcap, rfl, hrcap⟩ := hr.shape
    obtain ⟨oa, ocap, rfl, hocap, hob⟩ := hacc.shape
    have HR := Lib.hid hr
    have HA := Lib.hid hacc
    clear hr hacc
    cases ls' with
    | nil =>
      go_wp2
      go_ret2
      have : done = outsL O ls := by simpa [outsL] using hout
      subst this
      refine ⟨⟨_, rfl, HA.out.slice (fun _ h => h.elim) fun b hb => ?_⟩, hg⟩
      have := HA.out.base_le hb
      have := hg1.size
      omega
    | cons L ls' =>
      have hmem : L ∈ ls := hsuf.subset (by simp)
      have hLlen : (flatL (L :: ls')).length ≤ 32768 := by
        obtain ⟨t, ht⟩ := hsuf
        rw [← ht] at hlen
        simp only [flatL, List.flatMap_append, List.length_append] at hlen ⊢
        omega
      have hLl : 0 < (flatL (L :: ls')).length := by simp [flatL]; omega
      have hol : done.length + (O (L :: ls')).length + (outsL O ls').length ≤ 1000000 := by
        rw [← hout] at ho
        simp only [outsL, List.length_append] at ho
        omega
      have HR2 : Hid (SliceR rdByte I wr (.slice ra (flatL (L :: ls')).length rcap) (L ++ 10 :: flatL ls')) := Lib.hid (by rw [← flatL_cons]; exact HR.out)
      have hLB : (L ++ 10 :: flatL ls').length ≤ 1000000 := by rw [← flatL_cons]; omega
      have hL10 := h10 L hmem
      have hgt : ¬ (1048576 : Int) < (done.length : Int) + ((O (L :: ls')).length : Int) := by omega
      have HS := Lib.hid hSM
      clear hSM
      have hbm1 : bm < w1.heap.size := hm.lt
      have hbI : ∀ b, I b → b ≠ bs := fun b hb e => by have := hI b hb; omega
      go_wp2_with (first
        | (go_at_call 11; refine (cut_line I _ L (flatL ls') _ _ _ (HR2.out.grow ((Grow.refl wr).alloc _)) hL10 hLB (by simp [go_sem])).mono ?_; rintro e w3 ⟨⟨v1, v2, rfl, hv1, hv2⟩, q, rfl⟩; have HV1 := Lib.hid hv1; have HV2 := Lib.hid hv2; clear hv1 hv2)
        | (go_at_call 4; fail))
      refine (hline L ls' hsuf bs bm m text I _ _ ((hg.alloc _).drewN _) hbs (by simp; omega) (by simp; omega) (HS.out.grow (((Grow.refl wr).alloc _).drewN _)) htx HV1.out).mono ?_
      rintro e w4 ⟨⟨t, rfl, ht⟩, ⟨text', hSM', htx'⟩, hgb⟩
      obtain ⟨ta, tcap, rfl, htc⟩ := ht.shape
      have HT := Lib.hid ht.bytes
      have HTn := Lib.hid (SliceR.addr ht)
      have HS' := Lib.hid hSM'
      have HA4 := Lib.hid ((HA.out.grow (((Grow.refl wr).alloc _).drewN _)).keep1 hgb hbs1)
      have HG4 := Lib.hid (((hg.alloc _).drewN _).grown hgb (fun k hk => by cases hk; exact hbs))
      have HV4 := Lib.hid ((HV2.out.grow ((Grow.refl _).drewN q)).keep (w' := w4) fun b hb hlt => hgb.block b hlt (fun e => hbI b hb (Option.some.inj e)))
      have hsz4 : wr.heap.size ≤ w4.heap.size := Nat.le_trans (((Grow.refl wr).alloc _).drewN q).size hgb.size
      clear ht hSM' hgb
      go_wp2_with (at_builtin; refine wpList_appendN _ rdByte (fun _ => False) elemB _ done (O (L :: ls')) ta tcap _ _ _ rfl rfl rfl rfl HA4.out HT.out.2.1 ?_ HT.out.2.2 (by omega) (by omega) (by unfold maxLen; omega) (fun _ _ h => h) ?_; exact HTn.out; intro v5 w5 hacc5 hgb5; obtain ⟨a5, cap5, rfl, -, -⟩ := hacc5.shape; have HA5 := Lib.hid hacc5; have HB5 := Lib.hid hgb5; clear hacc5 hgb5)
      have hown : ∀ k, some k = (Value.slice oa done.length ocap).ownBlock → w1.heap.size ≤ k := fun k hk => HA4.out.base_le hk.symm
      have hbs5 : ∀ b, b < w1.heap.size → w5.heap[b]? = w4.heap[b]? := fun b hb => HB5.out.block b (by omega) fun e => by have := hown b e; omega
      go_roundw
      case rel =>
        refine ⟨ls', done ++ O (L :: ls'), (List.suffix_cons _ _).trans hsuf, by rw [← hout]; simp [outsL], HV4.out.keep fun b hb hlt => hbs5 b (by have := hI b hb; have := hg1.size; omega), by have := HA5.out; rw [List.length_append] at this; exact this,
          ⟨text', HS'.out.keep (hbs5 bs hbs1) (hbs5 bm hbm1), htx'⟩, HG4.out.grown HB5.out (fun k hk => by have := hown k hk.symm; have := hg1.size; omega), ?_⟩
        have := HB5.out.size
        omega
      case measure =>
        obtain ⟨_, _, e, -⟩ := HV4.out.shape
        rw [e]
        simp [lenOf, flatL_cons]
        omega
end Go.Proofs
