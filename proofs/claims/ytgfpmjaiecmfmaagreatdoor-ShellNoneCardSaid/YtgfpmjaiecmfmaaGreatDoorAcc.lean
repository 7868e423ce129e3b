import Derived.Test.YtgfpmjaiecmfmaaGreatDoorRead
import Derived.Laws.AppendOwn
import Derived.OwnWalk
import Derived.ArgAppend
/-! A slice that the call itself makes and appends to, element by element. -/
namespace Go
namespace Cm
open RowKit

/-- A type's row in the program's table: of a slice type t, its element type e, of so many cells and bytes. -/
structure ElemI (P : Program) (t e : TypeId) (size bytes : Nat) : Prop where
  slice : P.underlying t = some (.slice e)
  info : ∃ i z, P.info? e = some i ∧ i.zero = some z ∧ i.size = size ∧ i.bytes = bytes ∧ z.cells.size = size
  pos : 0 < size

theorem ElemI.of {P : Program} {t e : TypeId} {size bytes : Nat} (z : Value) (hs : P.underlying t = some (.slice e)) (hm : (P.info? e).map (fun i => (i.zero, i.size, i.bytes)) = some (some z, size, bytes)) (hz : z.cells.size = size) (hp : 0 < size) :
    ElemI P t e size bytes := by
  cases hi : P.info? e with
  | none => simp [hi] at hm
  | some i =>
    simp only [hi, Option.map_some, Option.some.injEq, Prod.mk.injEq] at hm
    exact ⟨hs, ⟨i, z, hi, hm.1, hm.2.1, hm.2.2, hz⟩, hp⟩

/-- The cells are those of the elements, one behind the other. -/
def Segs {α : Type} (rd : Rdr α) (I : Nat → Prop) (w : World) (ys : List α) (cells : List Value) : Prop :=
  cells.length = ys.length * rd.sz ∧ ∀ i y, ys[i]? = some y → ∃ cs, rd.R I w y cs ∧ ∀ j u, cs[j]? = some u → cells[i * rd.sz + j]? = some u

/-- The call's own row: it reads as ys; the elements lean on blocks of I alone, of which its own is none. -/
def AccR {α : Type} (rd : Rdr α) (I : Nat → Prop) (base : Nat) (e : TypeId) (w : World) (v : Value) (ys : List α) : Prop :=
  ∃ cells, w.ownsRow base e rd.sz v ys.length cells ∧ Segs rd I w ys cells ∧ ∀ b, v.ownBlock = some b → ¬ I b

section
variable {α : Type} {rd : Rdr α} {I I' : Nat → Prop} {w w' : World} {ys zs : List α} {cells : List Value} {base : Nat} {e : TypeId} {v : Value}

theorem Segs.nil : Segs rd I w [] [] := ⟨by simp, fun i y h => by simp at h⟩
theorem Segs.keep (hs : Stay I w w') (h : Segs rd I w ys cells) : Segs rd I w' ys cells :=
  ⟨h.1, fun i y hy => by obtain ⟨cs, h1, h2⟩ := h.2 i y hy; exact ⟨cs, rd.keep hs h1, h2⟩⟩
theorem Segs.snoc {y : α} {cs : List Value} (h : Segs rd I w ys cells) (hy : rd.R I w y cs) : Segs rd I w (ys ++ [y]) (cells ++ cs) := by
  have hl := rd.len hy
  refine ⟨by simp only [List.length_append, h.1, hl, List.length_cons, List.length_nil, Nat.zero_add]; rw [Nat.add_mul, Nat.one_mul], fun i z hz => ?_⟩
  rcases Nat.lt_or_ge i ys.length with hi | hi
  · rw [List.getElem?_append_left hi] at hz
    obtain ⟨cs', h1, h2⟩ := h.2 i z hz
    refine ⟨cs', h1, fun j u hj => ?_⟩
    have hj' := h2 j u hj
    rw [List.getElem?_append_left (List.getElem?_eq_some_iff.1 hj').1]
    exact hj'
  · rw [List.getElem?_append_right hi] at hz
    have hi0 : i - ys.length = 0 := by
      have := (List.getElem?_eq_some_iff.1 hz).1
      simp at this
      omega
    rw [hi0] at hz
    obtain rfl : y = z := by simpa using hz
    obtain rfl : i = ys.length := by omega
    refine ⟨cs, hy, fun j u hj => ?_⟩
    rw [List.getElem?_append_right (by rw [h.1]; omega), h.1, Nat.add_sub_cancel_left]
    exact hj

theorem AccR.nil : AccR rd I base e w (.slice none 0 0) ([] : List α) :=
  ⟨[], ⟨by simp, .inl ⟨rfl, rfl⟩⟩, Segs.nil, fun b h => by simp [Value.ownBlock] at h⟩

/-- Other blocks than its own may turn, if I's stay. -/
theorem AccR.keep (hs : Stay I w w') (hB : ∀ g, v.ownBlock = some g → g < w.heap.size → w'.heap[g]? = w.heap[g]?) (h : AccR rd I base e w v ys) : AccR rd I base e w' v ys := by
  obtain ⟨cells, hown, hseg, hI⟩ := h
  refine ⟨cells, ⟨hown.1, ?_⟩, hseg.keep hs, hI⟩
  rcases hown.2 with h | ⟨g, cap, cur, rfl, hb, hg, h⟩
  · exact .inl h
  · refine .inr ⟨g, cap, cur, rfl, hb, ?_, h⟩
    rw [hB g rfl (Array.getElem?_eq_some_iff.1 hg).1]
    exact hg
theorem AccR.grow (h : AccR rd I base e w v ys) (hg : Grow w w') : AccR rd I base e w' v ys := h.keep (Stay.of_grow hg) fun _ _ hb => hg.block hb
theorem AccR.monoI (hI : ∀ b, I b → I' b) (hn : ∀ b, v.ownBlock = some b → ¬ I' b) (h : AccR rd I base e w v ys) : AccR rd I' base e w v ys := by
  obtain ⟨cells, hown, hseg, _⟩ := h
  exact ⟨cells, hown, ⟨hseg.1, fun i y hy => by obtain ⟨cs, h1, h2⟩ := hseg.2 i y hy; exact ⟨cs, rd.mono hI h1, h2⟩⟩, hn⟩
theorem AccR.shape (h : AccR rd I base e w v ys) : ∃ a cap, v = .slice a ys.length cap ∧ ys.length ≤ cap ∧ ∀ ad, a = some ad → base ≤ ad.block := by
  obtain ⟨cells, hown, _⟩ := h
  rcases hown.2 with ⟨rfl, h⟩ | ⟨g, cap, cur, rfl, hb, hg, hc, _⟩
  · exact ⟨none, 0, by rw [h], by omega, fun ad h => by cases h⟩
  · exact ⟨_, cap, rfl, hc, fun ad h => by cases h; exact hb⟩
theorem AccR.lt (h : AccR rd I base e w v ys) {g : Nat} (hg : v.ownBlock = some g) : g < w.heap.size := by
  obtain ⟨cells, hown, _⟩ := h
  rcases hown.2 with ⟨rfl, _⟩ | ⟨g', cap, cur, rfl, _, hg', _⟩
  · simp [Value.ownBlock] at hg
  · simp only [Value.ownBlock, Option.some.injEq] at hg
    subst hg
    exact (Array.getElem?_eq_some_iff.1 hg').1
theorem AccR.base_le (h : AccR rd I base e w v ys) {g : Nat} (hg : v.ownBlock = some g) : base ≤ g := by
  obtain ⟨cells, hown, _⟩ := h
  rcases hown.2 with ⟨rfl, _⟩ | ⟨g', cap, cur, rfl, hb, _⟩
  · simp [Value.ownBlock] at hg
  · simp only [Value.ownBlock, Option.some.injEq] at hg
    subst hg
    exact hb
/-- Done with appending: it reads as any slice does. -/
theorem AccR.slice (h : AccR rd I base e w v ys) (hI : ∀ b, I b → I' b) (hown : ∀ b, v.ownBlock = some b → I' b) : SliceR rd I' w v ys := by
  obtain ⟨cells, ho, hseg, _⟩ := h
  rcases ho.2 with ⟨rfl, hn⟩ | ⟨g, cap, cur, rfl, hb, hg, hc, _, hsz, htake⟩
  · rw [List.length_eq_zero_iff.1 hn]
    exact SliceR.nil _ _
  · refine SliceR.of_rows (hown g rfl) hc fun i y hy => ?_
    obtain ⟨cs, h1, h2⟩ := hseg.2 i y hy
    refine ⟨cs, rd.mono hI h1, fun j u hj => ?_⟩
    have h3 := h2 j u hj
    rw [← htake, List.getElem?_take] at h3
    split at h3
    · unfold World.cell?
      simp only [hg, Option.isSome_none, Bool.false_eq_true, if_false, Nat.zero_add]
      rw [← Array.getElem?_toList]
      exact h3
    · cases h3
end

section
variable {P : Program} {α : Type} {rd : Rdr α} {I : Nat → Prop}
/-- 'out = append(out, x)': one element more. -/
theorem wpList_append1 (w : World) {ops : Array Oper} {rest : List Oper} {o : Oper} {a : Act} {Q : Exit → Act → World → Prop} (rd : Rdr α) (I : Nat → Prop) {base : Nat} {t e : TypeId} {bytes : Nat} (hE : ElemI P t e rd.sz bytes)
    (v : Value) (ys : List α) (y : α) (g c : Nat) (cs : List Value) (s x : Operand) (hgd : o.guard = none) (ho : o.op = .call { callee := .builtin .append, args := #[s, x], argTypes := #[t, t] })
    (hs : a.eval s = v) (hx : a.eval x = .slice (some ⟨g, 0, none⟩) 1 c) (hacc : AccR rd I base e w v ys) (hR : rd.R I w y cs)
    (hcells : ∀ j u, cs[j]? = some u → w.cell? ⟨g, j, none⟩ = some u) (hbase : base ≤ w.heap.size) (hbytes : (ys.length + 1) * bytes ≤ 140737488355328) (hlen : ys.length + 1 ≤ maxLen) (hnew : ∀ b, w.heap.size ≤ b → ¬ I b)
    (h : ∀ v' w', AccR rd I base e w' v' (ys ++ [y]) → w.grownBy w' v.ownBlock → (∃ g', v'.ownBlock = some g') → wpList P ops Q rest (a.put o.dst v') w') : wpList P ops Q (o :: rest) a w := by
  obtain ⟨i, z, hi, hz, hsz, hby, hzs⟩ := hE.info
  obtain ⟨cells, hown, hseg, hI⟩ := hacc
  have hlR := rd.len hR
  have hnews : ∀ j u, cs[j]? = some u → w.cell? (Addr.add ⟨g, 0, none⟩ j) = some u := fun j u hj => by
    have := hcells j u hj
    unfold Addr.add
    split
    · rename_i h0; subst h0; exact this
    · simpa using this
  -- what both arms leave
  have done_ : ∀ v' w' base', (base' = base ∧ v'.ownBlock = v.ownBlock ∨ base' = w.heap.size) → w'.ownsRow base' e rd.sz v' (ys.length + 1) (cells ++ cs) → w.grownBy w' v.ownBlock → wpList P ops Q rest (a.put o.dst v') w' := by
    intro v' w' base' hb hown' hg
    have hstay : Stay I w w' := fun b hb hlt => hg.block b hlt fun he => hI b he.symm hb
    have hseg' : Segs rd I w (ys ++ [y]) (cells ++ cs) := hseg.snoc hR
    have hown'' : w'.ownsRow base e rd.sz v' (ys ++ [y]).length (cells ++ cs) := by
      simp only [List.length_append, List.length_cons, List.length_nil, Nat.zero_add]
      rcases hb with ⟨rfl, _⟩ | rfl
      · exact hown'
      · refine ⟨hown'.1, hown'.2.imp id ?_⟩
        rintro ⟨g', cap, cur, e1, h2, h3⟩
        exact ⟨g', cap, cur, e1, Nat.le_trans hbase h2, h3⟩
    refine h v' w' ⟨_, hown'', hseg'.keep hstay, fun b hvb hIb => ?_⟩ hg ?_
    · rcases hb with ⟨_, hv⟩ | rfl
      · exact hI b (hv ▸ hvb) hIb
      · rcases hown'.2 with ⟨rfl, _⟩ | ⟨g', cap, cur, rfl, hge, _⟩
        · simp [Value.ownBlock] at hvb
        · simp only [Value.ownBlock, Option.some.injEq] at hvb
          subst hvb
          exact hnew _ hge hIb
    · rcases hown''.2 with ⟨_, h0⟩ | ⟨g', cap, cur, rfl, _⟩
      · simp at h0
      · exact ⟨g', rfl⟩
  have weak : ∀ {w'}, w.grownBy w' none → w.grownBy w' v.ownBlock := fun hg => ⟨hg.os, hg.tape, hg.output, hg.size, fun k hk _ => hg.block k hk (by simp)⟩
  rcases hown.2 with ⟨rfl, hn0⟩ | ⟨g0, cap, cur, rfl, hb, hg0, hc, hcm, hcs, htake⟩
  · have hcells0 : cells = [] := List.eq_nil_of_length_eq_zero (by rw [hown.1, hn0, Nat.zero_mul])
    refine wpList_append_grows w hgd s x t ho e i z rd.sz bytes hE.slice hi hz hsz hby hzs hE.pos none 0 0 [] hs (fun _ => ⟨rfl, rfl⟩) (by simp) (fun b h => by cases h) ⟨g, 0, none⟩ 1 c cs hx (by rw [hlR, Nat.one_mul]) hnews (rd.one hR) (by omega) (by omega) (by rw [hn0] at hbytes; exact hbytes) fun v' w' hown' hg => ?_
    refine done_ v' w' w.heap.size (.inr rfl) ?_ (weak hg)
    rw [hcells0, hn0]
    simpa using hown'
  · by_cases hfit : ys.length + 1 ≤ cap
    · exact wpList_append_fits w hgd s x t ho base e i rd.sz hE.slice hi hsz g0 ys.length cap cells hs hown ⟨g, 0, none⟩ 1 c cs hx (by rw [hlR, Nat.one_mul]) hnews (rd.one hR) hfit fun w' hown' hg => done_ _ w' base (.inl ⟨rfl, rfl⟩) hown' hg
    · refine wpList_append_grows w hgd s x t ho e i z rd.sz bytes hE.slice hi hz hsz hby hzs hE.pos (some ⟨g0, 0, none⟩) ys.length cap cells hs (fun h => by cases h) hown.1 (fun b h j u hj => ?_) ⟨g, 0, none⟩ 1 c cs hx (by rw [hlR, Nat.one_mul]) hnews (rd.one hR) (by omega) hlen hbytes fun v' w' hown' hg => done_ v' w' w.heap.size (.inr rfl) hown' (weak hg)
      cases h
      exact World.ownsRow.cells hown (g := g0) rfl j u hj
theorem newCells (w : World) (cs : List Value) (T : TypeId) : ∀ j u, cs[j]? = some u → (w.alloc (.cells cs.toArray T)).cell? ⟨w.heap.size, j, none⟩ = some u := fun j u hj => by
  rw [World.cell?_alloc_new]
  simpa using hj
theorem _root_.Go.Grow.grown {a w w' : World} (h : Grow a w) {row : Option Nat} (hg : w.grownBy w' row) (hr : ∀ k, row = some k → a.heap.size ≤ k) : Grow a w' :=
  grow_iff.2 ((grow_iff.1 h).grown hg h.size hr)
/-- 'out = append(out, x)' as the walk meets it: x in a block of its own, the last one. 'B': the world in which the call began. -/
theorem wpList_push {B w0 : World} (hg : Grow B w0) {ops : Array Oper} {rest : List Oper} {o : Oper} {a : Go.Act} {Q : Exit → Go.Act → World → Prop} (rd : Rdr α) (I : Nat → Prop) {t e : TypeId} {bytes : Nat} (hE : ElemI P t e rd.sz bytes)
    {T : TypeId} {v : Value} {c : Nat} {cs : List Value} {s x : Operand} (ys : List α) (y : α) (hgd : o.guard = none) (ho : o.op = .call { callee := .builtin .append, args := #[s, x], argTypes := #[t, t] })
    (hs : a.eval s = v) (hx : a.eval x = .slice (some ⟨w0.heap.size, 0, none⟩) 1 c) (hacc : AccR rd I B.heap.size e w0 v ys) (hR : rd.R I w0 y cs)
    (hbytes : (ys.length + 1) * bytes ≤ 140737488355328) (hlen : ys.length + 1 ≤ 9223372036854775807) (hI : ∀ b, I b → b < w0.heap.size)
    (h : ∀ v' w', AccR rd I B.heap.size e w' v' (ys ++ [y]) → Grow B w' → (∃ g' cap', v' = .slice (some ⟨g', 0, none⟩) (ys.length + 1) cap') → w0.grownBy w' v.ownBlock → wpList P ops Q rest (a.put o.dst v') w') :
    wpList P ops Q (o :: rest) a (w0.alloc (.cells cs.toArray T)) := by
  have hga : Grow B (w0.alloc (.cells cs.toArray T)) := hg.alloc _
  have hg1 : Grow w0 (w0.alloc (.cells cs.toArray T)) := (Grow.refl w0).alloc _
  refine wpList_append1 _ rd I hE v ys y w0.heap.size c cs s x hgd ho hs hx (hacc.grow hg1) (Rdr.grow hR hg1) (newCells w0 cs T) hga.size hbytes (by unfold maxLen; omega) (fun b hb hIb => ?_) fun v' w' hacc' hgr hv' => ?_
  · have := hI b hIb
    have := hg1.size
    omega
  · refine h v' w' hacc' (hga.grown hgr fun k hk => hacc.base_le hk) ?_ ⟨hgr.os, hgr.tape, hgr.output, Nat.le_trans hg1.size hgr.size, fun k hk hne => ?_⟩
    · obtain ⟨cells, hown, _⟩ := hacc'
      rcases hown.2 with ⟨_, h0⟩ | ⟨g', cap, cur, rfl, _⟩
      · simp at h0
      · exact ⟨g', cap, by simp⟩
    · rw [hgr.block k (Nat.lt_of_lt_of_le hk hg1.size) hne, hg1.block hk]
end
end Cm
end Go
