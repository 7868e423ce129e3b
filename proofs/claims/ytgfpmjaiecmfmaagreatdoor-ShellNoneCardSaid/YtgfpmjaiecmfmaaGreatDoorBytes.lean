import Derived.Test.YtgfpmjaiecmfmaaGreatDoorRead
import Derived.Laws.IdiomStrings
/-! Bytes in memory and strings: the conversions between them. -/
namespace Go
namespace Cm
open RowKit
def rdByte : Rdr UInt8 := rdFlat 1 (fun b => [.int .u8 (b.toNat : Int)]) (fun _ => rfl) (by intro x; simp [Value.oneCell'])
theorem SliceR.atByte {I : Nat → Prop} {w : World} {a : Option Addr} {n cap : Nat} {xs : List UInt8} (h : SliceR rdByte I w (.slice a n cap) xs) (k : Nat) (hk : k < xs.length) :
    ∃ b o, a = some ⟨b, o, none⟩ ∧ I b ∧ w.cell? ⟨b, o + k, none⟩ = some (.int .u8 (xs[k].toNat : Int)) := by
  obtain ⟨b, o, cs, ea, hI, rfl, hr⟩ := h.at_ k hk
  have := hr.c0
  simp only [rdByte, rdFlat, Nat.mul_one] at this
  exact ⟨b, o, ea, hI, this⟩
section
variable {P : Program} {I : Nat → Prop} {w : World} {src dst e : TypeId} {v : Value} {l : List UInt8}
/-- 'string(b)'. -/
theorem run_string_of (hs : P.underlying src = some (.slice e)) (he : P.underlying e = some (.int .u8)) (hd : P.underlying dst = some .string) (h : SliceR rdByte I w v l) :
    (convert src dst v).run P w = .ok (.string ⟨l.toArray⟩) w := by
  obtain ⟨a, cap, rfl, hcap⟩ := h.shape
  cases l with
  | nil =>
    cases a with
    | none =>
      rw [run_convert_bytes_string w src dst e none ([] : List UInt8).length cap hs he hd]
      rfl
    | some ad => exact run_convert_bytes_back w src dst e ad cap [] hs he hd (fun j hj => by simp at hj)
  | cons x l =>
    obtain ⟨b, o, rfl, -, -⟩ := h.atByte 0 (by simp)
    refine run_convert_bytes_back w src dst e ⟨b, o, none⟩ cap (x :: l) hs he hd (fun j hj => ?_)
    obtain ⟨b', o', he', -, hc⟩ := h.atByte j hj
    simp only [Option.some.injEq, Addr.mk.injEq] at he'
    obtain ⟨rfl, rfl, _⟩ := he'
    unfold Addr.add
    split
    · rename_i h0; subst h0; simpa using hc
    · exact hc
/-- '[]byte(s)'. -/
theorem run_bytes_of (s : ByteArray) (hs : P.underlying src = some .string) (hd : P.underlying dst = some (.slice e)) (he : P.underlying e = some (.int .u8)) :
    ∃ v' w', (convert src dst (.string s)).run P w = .ok v' w' ∧ SliceR rdByte (fun b => w.heap.size ≤ b) w' v' s.data.toList ∧ Grow w w' := by
  refine ⟨_, _, run_bytes_of_string w src dst e s hs hd he, ?_, ((Grow.refl w).drew).alloc _⟩
  have hlen : s.data.toList.length = s.size := Array.length_toList
  have : SliceR rdByte (fun b => w.heap.size ≤ b) (w.drew.alloc (.cells (bytesRow s (grownCap w s.size 0 e)) e ((bytesRow s (grownCap w s.size 0 e)).size, (bytesRow s (grownCap w s.size 0 e)).size + 1))) (.slice (some ⟨w.heap.size, 0, none⟩) s.data.toList.length (grownCap w s.size 0 e)) s.data.toList := by
    refine SliceR.of_rows (Nat.le_refl _) (by rw [hlen]; exact grownCap_ge w s.size 0 e) fun i x hx => ⟨_, rfl, fun j u hj => ?_⟩
    have hj0 : j = 0 := by
      have := (List.getElem?_eq_some_iff.1 hj).1
      simp at this
      exact this
    subst hj0
    obtain rfl : Value.int .u8 (x.toNat : Int) = u := by simpa using hj
    have hcell := World.cell?_alloc_mark w.drew (bytesRow s (grownCap w s.size 0 e)) e ((bytesRow s (grownCap w s.size 0 e)).size, (bytesRow s (grownCap w s.size 0 e)).size + 1) i
    have hi := (List.getElem?_eq_some_iff.1 hx).1
    rw [show (0 + i * rdByte.sz + 0 : Nat) = i from by simp [rdByte, rdFlat]]
    refine hcell.trans ?_
    unfold bytesRow
    have hi' : i < s.data.size := by rw [← Array.length_toList]; exact hi
    rw [Array.getElem?_append_left (by rw [Array.size_map]; exact hi')]
    have hx' : s.data[i]? = some x := by rw [← Array.getElem?_toList]; exact hx
    rw [Array.getElem?_map, hx']
    rfl
  rwa [hlen] at this
theorem wpList_bytes_of {ops : Array Oper} {rest : List Oper} {o : Oper} {a : Go.Act} {Q : Exit → Go.Act → World → Prop} (hgd : o.guard = none) {x : Operand} (ho : o.op = .convert src dst x) (s : ByteArray) (hx : a.eval x = .string s)
    (hs : P.underlying src = some .string) (hd : P.underlying dst = some (.slice e)) (he : P.underlying e = some (.int .u8))
    (h : ∀ v' w', SliceR rdByte (fun b => w.heap.size ≤ b) w' v' s.data.toList → Grow w w' → wpList P ops Q rest (a.put o.dst v') w') : wpList P ops Q (o :: rest) a w := by
  refine wpList_plain hgd fun _ hK => ?_
  obtain ⟨v', w', hr, h1, h2⟩ := run_bytes_of (P := P) (w := w) (src := src) (dst := dst) (e := e) s hs hd he
  unfold Oper.wp execOp
  simp only [ho, hx, Sem.run_bind, hr, Result.andThen_ok, Sem.run_pure]
  exact hK _ _ (h v' w' h1 h2)
theorem wpList_string_of {ops : Array Oper} {rest : List Oper} {o : Oper} {a : Go.Act} {Q : Exit → Go.Act → World → Prop} (hgd : o.guard = none) {x : Operand} (ho : o.op = .convert src dst x) (I : Nat → Prop) (l : List UInt8) (h : SliceR rdByte I w (a.eval x) l)
    (hs : P.underlying src = some (.slice e)) (he : P.underlying e = some (.int .u8)) (hd : P.underlying dst = some .string)
    (hn : wpList P ops Q rest (a.put o.dst (.string ⟨l.toArray⟩)) w) : wpList P ops Q (o :: rest) a w := by
  refine wpList_plain hgd fun _ hK => ?_
  unfold Oper.wp execOp
  simp only [ho, Sem.run_bind, run_string_of hs he hd h, Result.andThen_ok, Sem.run_pure]
  exact hK _ _ hn
end
end Cm
end Go
