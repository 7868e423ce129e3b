import Derived.Test.YtgfpmjaiecmfmaaGreatDoorProg
import Derived.Test.YtgfpmjaiecmfmaaGreatDoorShelf
import Derived.Test.YtgfpmjaiecmfmaaGreatDoorAccN
open Go Go.RowKit Go.Cm Go.Shelf
namespace Go.Cm
section
variable {α : Type} {rd : Rdr α} {I : Nat → Prop} {w : World} {xs : List α} {b o n cap : Nat}
theorem SliceR.take (h : SliceR rd I w (.slice (some ⟨b, o, none⟩) n cap) xs) (k : Nat) (hk : k ≤ xs.length) (cap' : Nat) (hc : k ≤ cap') : SliceR rd I w (.slice (some ⟨b, o, none⟩) k cap') (xs.take k) := by
  obtain ⟨a', c', hv, hcap, hx⟩ := h
  injection hv with e1 e2 e3
  subst e1 e2 e3
  refine ⟨some ⟨b, o, none⟩, cap', by simp [hk], by simp; omega, fun i x hi => ?_⟩
  rw [List.getElem?_take] at hi
  split at hi
  · obtain ⟨b', o', cs, ea, hb, hr, hrow⟩ := hx i x hi
    exact ⟨b', o', cs, ea, hb, hr, hrow⟩
  · cases hi
theorem SliceR.drop (h : SliceR rd I w (.slice (some ⟨b, o, none⟩) n cap) xs) (k : Nat) (cap' : Nat) (hc : n - k ≤ cap') : SliceR rd I w (.slice (some ⟨b, o + k * rd.sz, none⟩) (n - k) cap') (xs.drop k) := by
  obtain ⟨a', c', hv, hcap, hx⟩ := h
  injection hv with e1 e2 e3
  subst e1 e2 e3
  refine ⟨some ⟨b, o + k * rd.sz, none⟩, cap', by simp, by simp; omega, fun i x hi => ?_⟩
  rw [List.getElem?_drop] at hi
  obtain ⟨b', o', cs, ea, hb, hr, hrow⟩ := hx (k + i) x hi
  cases ea
  refine ⟨b, o + k * rd.sz, cs, rfl, hb, hr, ?_⟩
  rw [Nat.add_mul] at hrow
  rw [Nat.add_assoc]
  exact hrow
end
end Go.Cm
namespace Go.Proofs
theorem indexByte_line (L R : List UInt8) (c : UInt8) (h : c ∉ L) : Lib.indexByte (L ++ c :: R) c = L.length := by
  induction L with
  | nil => simp [Lib.indexByte]
  | cons x L ih =>
    simp only [List.mem_cons, not_or] at h
    have := ih h.2
    simp only [List.cons_append, Lib.indexByte, this, List.length_cons]
    have hx : (x == c) = false := by simp; exact fun e => h.1 e.symm
    rw [hx]
    simp
theorem bytesOf_toNat (l : List UInt8) : Lib.bytesOf (l.map fun c => (c.toNat : Int)) = l := by
  unfold Lib.bytesOf
  rw [List.map_map]
  conv => rhs; rw [← List.map_id l]
  congr 1
  funext c
  simp
/-- bytes.Cut at a line's end. -/
theorem cut_line (I : Nat → Prop) (v : Value) (L R : List UInt8) (b2 c2 : Nat) (w : World) (h : SliceR rdByte I w v (L ++ 10 :: R)) (hL : (10 : UInt8) ∉ L) (hn : (L ++ 10 :: R).length ≤ 1000000)
    (hc : w.cell? ⟨b2, 0, none⟩ = some (.int .u8 10)) :
    Calls Tryz.prog 11 #[v, .slice (some ⟨b2, 0, none⟩) 1 c2] w fun e w' => (∃ v1 v2, e = .returned (.tuple #[v1, v2, .bool true]) ∧ SliceR rdByte I w v1 L ∧ SliceR rdByte I w v2 R) ∧ ∃ q, w' = w.drewN q := by
  obtain ⟨a, cap, hv, hcap, hx⟩ := id h
  obtain ⟨b, o, -, rfl, -⟩ := hx 0 ((L ++ 10 :: R)[0]'(by simp; omega)) (by simp)
  subst hv
  have hb := h.bytes
  have hlen : (L ++ 10 :: R).length = L.length + R.length + 1 := by simp; omega
  have hi := Tryz.bytes_Index_one b o (L ++ 10 :: R).length cap b2 0 c2 ((L ++ 10 :: R).map fun c => (c.toNat : Int)) 10 w (by simp) (fun i hi => by
      have := hb.2.2 _ rfl i (.int .u8 ((L ++ 10 :: R)[i].toNat)) (by rw [List.getElem?_map, List.getElem?_eq_getElem hi]; rfl)
      rw [Addr.add_lit] at this
      rw [this, List.getD, List.getElem?_map, List.getElem?_eq_getElem hi]; rfl) hc
  rw [bytesOf_toNat, show (Int.toNat 10).toUInt8 = (10 : UInt8) from rfl, indexByte_line L R 10 hL] at hi
  refine (Tryz.bytes_Cut_of (some ⟨b, o, none⟩) (some ⟨b2, 0, none⟩) (L ++ 10 :: R).length cap 1 c2 L.length w hcap (by omega) (by intro _; omega) (by omega) (hi.mono fun e w' he => ⟨he.1, 0, he.2⟩)).mono ?_
  rintro e w' ⟨rfl, q, rfl⟩
  refine ⟨?_, q, rfl⟩
  unfold Lib.cutV
  rw [if_pos (by omega)]
  refine ⟨_, _, rfl, ?_, ?_⟩
  · have := h.take L.length (by omega) cap (by omega)
    rw [List.take_left'] at this
    · simpa using this
    · rfl
  · unfold Lib.fromV
    by_cases hc1 : cap = (L.length : Int).toNat + 1
    · rw [if_pos hc1]
      have hR : R = [] := List.eq_nil_of_length_eq_zero (by simp at hc1; omega)
      subst hR
      have h0 : (L ++ [10]).length - ((L.length : Int).toNat + 1) = 0 := by simp
      rw [h0]
      exact SliceR.nil _ _
    · rw [if_neg hc1]
      have := h.drop (L.length + 1) (cap - (L.length + 1)) (by omega)
      have hd : (L ++ 10 :: R).drop (L.length + 1) = R := by
        rw [List.append_cons, List.drop_left']
        simp
      rw [hd] at this
      simpa [rdByte, rdFlat, Addr.add_lit] using this
end Go.Proofs
