/- A closed fact about the program, for the claim on ShellNone. -/
import Derived.Test.YtgfpmjaiecmfmaaGreatDoorLo0
import Derived.Test.YtgfpmjaiecmfmaaGreatDoorLo1
import Derived.Test.YtgfpmjaiecmfmaaGreatDoorLight
import Derived.Test.YtgfpmjaiecmfmaaGreatDoorLoF
namespace Go.Proofs.YtgfpmjaiecmfmaaGreatDoor
open Go
theorem lay_all : (List.range Tryz.prog.types.size).all (rowFine Tryz.prog) = true := by
  rw [lay_size]
  refine List.all_eq_true.2 fun t ht => ?_
  have ht' : t < 724 := List.mem_range.1 ht
  have h0 := List.all_eq_true.1 lay_0 t
  have h1 := List.all_eq_true.1 lay_1 t
  have h2 := List.all_eq_true.1 lay_2 t
  have h3 := List.all_eq_true.1 lay_3 t
  have h4 := List.all_eq_true.1 lay_4 t
  have h5 := List.all_eq_true.1 lay_5 t
  simp only [List.mem_range'_1] at h0 h1 h2 h3 h4 h5
  rcases Nat.lt_or_ge t 128 with k | k
  · exact h0 ⟨by omega, by omega⟩
  rcases Nat.lt_or_ge t 256 with k | k
  · exact h1 ⟨by omega, by omega⟩
  rcases Nat.lt_or_ge t 384 with k | k
  · exact h2 ⟨by omega, by omega⟩
  rcases Nat.lt_or_ge t 512 with k | k
  · exact h3 ⟨by omega, by omega⟩
  rcases Nat.lt_or_ge t 640 with k | k
  · exact h4 ⟨by omega, by omega⟩
  exact h5 ⟨by omega, by omega⟩
theorem both3 {a b c : Bool} (h : a = true) (k : b = true) (l : c = true) : (a && b && c) = true := by rw [h, k, l]; rfl
theorem fact_1 : (laidOutB Tryz.prog) = true := both3 lay_all lay_g lay_f
end Go.Proofs.YtgfpmjaiecmfmaaGreatDoor
